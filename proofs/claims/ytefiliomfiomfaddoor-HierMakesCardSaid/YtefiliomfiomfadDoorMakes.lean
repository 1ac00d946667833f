/- HierMakes: open, and the walk. -/
import Derived.Test.YtefiliomfiomfadDoorBel
import Derived.Test.YtefiliomfiomfadDoorFixed
import Derived.Test.YtefiliomfiomfadDoorOrder
namespace Go.Proofs.YtefiliomfiomfadDoor
open Go.RowKit Go.Maps

/-- What open leaves. -/
def OPost (w : World) (r : Option (List (BA × BA))) (e : Ending) (w' : World) : Prop := Below w.heap.size w w' ∧ match r with
  | none => e = .returned (.tuple #[.pointer none, .pointer none, .bool true])
  | some H => ∃ p q F G, e = .returned (.tuple #[p, q, .bool true]) ∧ HP w' F p H 64 ∧ RH w' G q H ∧ sizes H
set_option maxRecDepth 100000 in
set_option maxHeartbeats 1000000 in
theorem open13 (x : Option Addr) (cp : Nat) (L : List (BA × BA)) (w : World) (hR : RP w x L) (hS : sizes L) (hlen : L.length ≤ 60) :
    Calls Tryd.prog 13 #[.slice x L.length cp] w (OPost w (newF L).1) := by
  have HG := Lib.hid (given9 x cp L w hR hlen)
  have HG2 := Lib.hid (fun (w' : World) (hb : Below w.heap.size w w') => given9 x cp L w' (by
    intro h
    obtain ⟨b, o, rfl, hbl, hcs⟩ := hR h
    refine ⟨b, o, rfl, Nat.lt_of_lt_of_le hbl hb.size, fun i hi => ?_⟩
    rw [hb.cell (p := ⟨b, _, none⟩) hbl, hb.cell (p := ⟨b, _, none⟩) hbl]
    exact hcs i hi) hlen)
  have HN := Lib.hid (fun (w' : World) (x' : Option Addr) (cp' : Nat) (hr : RC w' x' L) => new8 x' cp' L w' hS hr (by unfold maxLen; omega))
  have HM := Lib.hid (fun (w' : World) (x' : Option Addr) (cp' : Nat) (hr : RC w' x' L) => refnew36 x' cp' L w' hr hlen)
  rw [newR_eq] at HM
  rcases new_err (L := L) with ⟨er, ek, he, hk, hk0⟩ | ⟨H, he⟩
  · rw [he] at HN HM ⊢
    clear hR hS hlen he hk hk0
    go_enter Tryd.func13, Tryd.ntmps13
    go_wp2_with fail
    refine HG.out.mono ?_
    rintro e w1 ⟨x', cp', rfl, hrc, hb1⟩
    have HRC := Lib.hid hrc
    have HB1 := Lib.hid hb1
    clear hrc hb1
    go_wp2_with fail
    refine (HN.out w1 x' cp' HRC.out).mono ?_
    rintro e w2 ⟨hb2, hq⟩
    simp only at hq
    obtain rfl := hq
    have HB2 := Lib.hid (HB1.out.trans (hb2.mono HB1.out.size))
    clear hb2
    go_wp2_with fail
    refine (HG2.out w2 HB2.out).mono ?_
    rintro e w3 ⟨x3, cp3, rfl, hrc, hb3⟩
    have HRC3 := Lib.hid hrc
    have HB3 := Lib.hid (HB2.out.trans (hb3.mono HB2.out.size))
    clear hrc hb3
    go_wp2_with fail
    refine (HM.out w3 x3 cp3 HRC3.out).mono ?_
    rintro e w4 ⟨hb4, hq⟩
    simp only at hq
    obtain rfl := hq
    have HB4 := Lib.hid (HB3.out.trans (hb4.mono HB3.out.size))
    clear hb4
    go_wp2
    refine bodyPost_ret (v := .tuple #[.pointer none, .pointer none, .bool true]) (by simp [results, Tryd.results13, go_sem]) rfl ?_
    exact ⟨HB4.out, rfl⟩
  · rw [he] at HN HM ⊢
    clear hR hS hlen he
    go_enter Tryd.func13, Tryd.ntmps13
    go_wp2_with fail
    refine HG.out.mono ?_
    rintro e w1 ⟨x', cp', rfl, hrc, hb1⟩
    have HRC := Lib.hid hrc
    have HB1 := Lib.hid hb1
    clear hrc hb1
    go_wp2_with fail
    refine (HN.out w1 x' cp' HRC.out).mono ?_
    rintro e w2 ⟨hb2, p, F, rfl, hp, _, hs, _⟩
    have HB2 := Lib.hid (HB1.out.trans (hb2.mono HB1.out.size))
    have HPP := Lib.hid hp
    have HS := Lib.hid hs
    obtain ⟨pb, rfl⟩ := hp.p
    clear hb2 hp hs
    go_wp2_with fail
    refine (HG2.out w2 HB2.out).mono ?_
    rintro e w3 ⟨x3, cp3, rfl, hrc, hb3⟩
    have HRC3 := Lib.hid hrc
    have HB3 := Lib.hid (HB2.out.trans (hb3.mono HB2.out.size))
    have HP3 := Lib.hid (HPP.out.below hb3)
    clear hrc hb3 HPP
    go_wp2_with fail
    refine (HM.out w3 x3 cp3 HRC3.out).mono ?_
    rintro e w4 ⟨hb4, q, G, rfl, hq, _⟩
    have HB4 := Lib.hid (HB3.out.trans (hb4.mono HB3.out.size))
    have HP4 := Lib.hid (HP3.out.below hb4)
    have HQ4 := Lib.hid hq
    obtain ⟨qb, rfl⟩ := hq.p
    clear hb4 hq HP3
    go_wp2
    refine bodyPost_ret (v := .tuple #[.pointer (some ⟨pb, 0, none⟩), .pointer (some ⟨qb, 0, none⟩), .bool true]) (by simp [results, Tryd.results13, go_sem]) rfl ?_
    exact ⟨HB4.out, _, _, F, G, rfl, HP4.out, HQ4.out, HS.out⟩
theorem Good.tot60 {H : List (BA × BA)} (g : Good H) (hl : H.length ≤ 41) (x : BA) : chainN H 100 x (look H x).isSome = some (chainF H x) ∧ (chainF H x).length ≤ 60 := by
  have : ∃ l, chainN H 100 x (look H x).isSome = some l ∧ l.length ≤ 60 := by
    cases hx : (look H x).isSome with
    | false => exact ⟨[], rfl, by simp⟩
    | true =>
      obtain ⟨n, hn, hu, hs⟩ := g.reach x hx
      obtain ⟨l, h1, h2⟩ := chain_reach n x 100 hu hs (by omega)
      exact ⟨l, h1, by omega⟩
  obtain ⟨l, h1, h2⟩ := this
  have e : chainF H x = l := by unfold chainF; rw [h1]; rfl
  rw [e]
  exact ⟨h1, h2⟩
set_option maxRecDepth 100000 in
set_option maxHeartbeats 4000000 in
theorem makes_core (x : Option Addr) (cp : Nat) (L : List (BA × BA)) (c : BA) (w : World) (hR : RP w x L) (hS : sizes L) (hlen : L.length ≤ maxLen) (hc : c.size ≤ maxLen) :
    Calls Tryd.prog 5 #[.slice x L.length cp, .string c] w fun e w' => e = .returned (.bool true) ∧ Below w.heap.size w w' := by
  have HL := hlen
  unfold maxLen at HL
  by_cases h60 : 60 < L.length
  · clear hR hS hlen hc
    go_enter Tryd.func5, Tryd.ntmps5
    go_wp2_with fail
    refine (known7 w).mono ?_
    rintro e w1 ⟨rfl, hb⟩
    have HB := Lib.hid hb
    clear hb
    go_wp2
    go_ret
    exact ⟨rfl, HB.out⟩
  · have HO := Lib.hid (open13 x cp L w hR hS (by omega))
    rcases new_err (L := L) with ⟨er, ek, he, hk, hk0⟩ | ⟨H, he⟩
    · rw [he] at HO
      clear hR hS hlen hc he hk hk0
      go_enter Tryd.func5, Tryd.ntmps5
      go_wp2_with fail
      refine HO.out.mono ?_
      rintro e w1 ⟨hb1, hq⟩
      simp only at hq
      obtain rfl := hq
      have HB1 := Lib.hid hb1
      clear hb1
      go_wp2_with fail
      refine (known7 _).mono ?_
      rintro e w3 ⟨rfl, hb3⟩
      have HB3 := Lib.hid (HB1.out.trans (hb3.mono HB1.out.size))
      clear hb3
      go_wp2
      go_ret
      exact ⟨rfl, HB3.out⟩
    · rw [he] at HO
      obtain ⟨hg, hHL, hL32⟩ := new_good he
      have hb9 : base.length = 9 := rfl
      have hHl : H.length = 9 + L.length := by rw [hHL, List.length_append, hb9]
      have ht := hg.tot
      have ht60 := fun x => hg.tot60 (by omega) x
      have HS14 := Lib.hid (fun (w : World) (F : Nat → Prop) (p : Value) (hp : HP w F p H 64) => super14 hp c hc)
      have HS15 := Lib.hid (fun (w : World) (F : Nat → Prop) (p : Value) (hp : RH w F p H) => super15 hp (by omega) c)
      have HN17 := Lib.hid (fun (w : World) (F : Nat → Prop) (p : Value) (hp : HP w F p H 64) => names17 hp (by omega) (by omega))
      have HN18 := Lib.hid (fun (w : World) (F : Nat → Prop) (p : Value) (hp : RH w F p H) => names18 hp (by omega))
      have HH19 := Lib.hid (fun (w : World) (F : Nat → Prop) (p : Value) (hp : HP w F p H 64) => has19 hp c hc)
      have HH20 := Lib.hid (fun (w : World) (F : Nat → Prop) (p : Value) (hp : RH w F p H) => has20 hp (by omega) c)
      have HC21 : Hid (∀ (w : World) (F : Nat → Prop) (p : Value), HP w F p H 64 → sizes H → Calls Tryd.prog 21 #[p, .string c] w (FS w (chainF H c))) := Lib.hid (fun (w : World) (F : Nat → Prop) (p : Value) (hp : HP w F p H 64) (hs : sizes H) => chain21 hp hs c hc 100 (by omega) _ (ht c).1)
      have HC22 := Lib.hid (fun (w : World) (F : Nat → Prop) (p : Value) (hp : RH w F p H) => chain22 hp (by omega) c 100 (by omega) _ (ht60 c).1 (ht60 c).2)
      have HB23 := Lib.hid (fun (w : World) (F : Nat → Prop) (p : Value) (hp : HP w F p H 64) (hs : sizes H) => below23 hp hs ht (by omega) (by omega) c)
      have HB24 := Lib.hid (fun (w : World) (F : Nat → Prop) (p : Value) (hp : RH w F p H) => below24 hp (by omega) ht60 c)
      have hbl : (belowF H c).length ≤ 1048576 := by
        have := List.length_filter_le (fun n => inF (chainF H n) c) (H.map (·.1))
        unfold belowF
        rw [List.length_map] at this
        omega
      have HT16n := Lib.hid (fun (u v : Value) (w : World) (hu : RS w u (H.map (·.1))) (hv : RS w v (H.map (·.1))) => texts16 _ u v w hu hv (by rw [List.length_map]; omega))
      have HT16c := Lib.hid (fun (u v : Value) (w : World) (hu : RS w u (chainF H c)) (hv : RS w v (chainF H c)) => texts16 _ u v w hu hv (by have := (ht c).2; omega))
      have HT16b := Lib.hid (fun (u v : Value) (w : World) (hu : RS w u (belowF H c)) (hv : RS w v (belowF H c)) => texts16 _ u v w hu hv hbl)
      generalize superF H c = sp at *
      obtain ⟨sn, sb⟩ := sp
      generalize (look H c).isSome = hs at *
      clear hR hS hlen hc he hg hHL hb9 hHl ht ht60 hbl
      generalize H.map (·.1) = ln at *
      generalize chainF H c = lc at *
      generalize belowF H c = lb at *
      go_enter Tryd.func5, Tryd.ntmps5
      go_wp2_with fail
      refine HO.out.mono ?_
      rintro e w1 ⟨hb1, p, q, F, G, rfl, hp, hq, hsz⟩
      have HB1 := Lib.hid hb1
      have HP1 := Lib.hid hp
      have HQ1 := Lib.hid hq
      have HSZ := Lib.hid hsz
      obtain ⟨pb, rfl⟩ := hp.p
      obtain ⟨qb, rfl⟩ := hq.p
      clear hb1 hp hq hsz HO
      go_wp2_with fail
      refine (HS14.out _ _ _ HP1.out).mono ?_
      rintro e w2 ⟨rfl, rfl⟩
      clear HS14
      go_wp2_with fail
      refine (HS15.out _ _ _ HQ1.out).mono ?_
      rintro e w3 ⟨rfl, rfl⟩
      clear HS15
      go_wp2_with fail
      refine (HN17.out _ _ _ HP1.out).mono ?_
      rintro e w4 ⟨v4, rfl, ho4, _, hb4⟩
      have HO4 := Lib.hid ho4
      have HB4 := Lib.hid (HB1.out.trans (hb4.mono HB1.out.size))
      have HP4 := Lib.hid (HP1.out.below hb4)
      have HQ4 := Lib.hid (HQ1.out.below hb4)
      clear ho4 hb4 HN17 HP1 HQ1 HB1
      go_wp2_with fail
      refine (HN18.out _ _ _ HQ4.out).mono ?_
      rintro e w5 ⟨v5, rfl, ho5, _, hb5⟩
      have HB5 := Lib.hid (HB4.out.trans (hb5.mono HB4.out.size))
      have HP5 := Lib.hid (HP4.out.below hb5)
      have HQ5 := Lib.hid (HQ4.out.below hb5)
      have HT5 := Lib.hid (HT16n.out v4 v5 w5 (HO4.out.chg (Chg.of_below (F := fun _ => False) hb5) (fun _ _ e => e)).rs ho5.rs)
      clear ho5 hb5 HN18 HP4 HQ4 HB4 HO4 HT16n
      go_wp2_with fail
      refine HT5.out.mono ?_
      rintro e w6 ⟨rfl, hb6⟩
      have HB6 := Lib.hid (HB5.out.trans (hb6.mono HB5.out.size))
      have HP6 := Lib.hid (HP5.out.below hb6)
      have HQ6 := Lib.hid (HQ5.out.below hb6)
      clear hb6 HP5 HQ5 HB5 HT5
      go_wp2_with fail
      refine (HH19.out _ _ _ HP6.out).mono ?_
      rintro e w7 ⟨rfl, rfl⟩
      clear HH19
      go_wp2_with fail
      refine (HH20.out _ _ _ HQ6.out).mono ?_
      rintro e w8 ⟨rfl, rfl⟩
      clear HH20
      go_wp2_with fail
      refine (HC21.out _ _ _ HP6.out HSZ.out).mono ?_
      rintro e w9 ⟨v9, rfl, ho9, _, hb9⟩
      have HO9 := Lib.hid ho9
      have HB9 := Lib.hid (HB6.out.trans (hb9.mono HB6.out.size))
      have HP9 := Lib.hid (HP6.out.below hb9)
      have HQ9 := Lib.hid (HQ6.out.below hb9)
      clear ho9 hb9 HC21 HP6 HQ6 HB6
      go_wp2_with fail
      refine (HC22.out _ _ _ HQ9.out).mono ?_
      rintro e w10 ⟨v10, rfl, ho10, _, hb10⟩
      have HB10 := Lib.hid (HB9.out.trans (hb10.mono HB9.out.size))
      have HP10 := Lib.hid (HP9.out.below hb10)
      have HQ10 := Lib.hid (HQ9.out.below hb10)
      have HT10 := Lib.hid (HT16c.out v9 v10 w10 (HO9.out.chg (Chg.of_below (F := fun _ => False) hb10) (fun _ _ e => e)).rs ho10.rs)
      clear ho10 hb10 HC22 HP9 HQ9 HB9 HO9 HT16c
      go_wp2_with fail
      refine HT10.out.mono ?_
      rintro e w11 ⟨rfl, hb11⟩
      have HB11 := Lib.hid (HB10.out.trans (hb11.mono HB10.out.size))
      have HP11 := Lib.hid (HP10.out.below hb11)
      have HQ11 := Lib.hid (HQ10.out.below hb11)
      clear hb11 HP10 HQ10 HB10 HT10
      go_wp2_with fail
      refine (HB23.out _ _ _ HP11.out HSZ.out).mono ?_
      rintro e w12 ⟨v12, rfl, ho12, _, hb12⟩
      have HO12 := Lib.hid ho12
      have HB12 := Lib.hid (HB11.out.trans (hb12.mono HB11.out.size))
      have HQ12 := Lib.hid (HQ11.out.below hb12)
      clear ho12 hb12 HB23 HP11 HQ11 HB11
      go_wp2_with fail
      refine (HB24.out _ _ _ HQ12.out).mono ?_
      rintro e w13 ⟨v13, rfl, ho13, _, hb13⟩
      have HB13 := Lib.hid (HB12.out.trans (hb13.mono HB12.out.size))
      have HT13 := Lib.hid (HT16b.out v12 v13 w13 (HO12.out.chg (Chg.of_below (F := fun _ => False) hb13) (fun _ _ e => e)).rs ho13.rs)
      clear ho13 hb13 HB24 HQ12 HB12 HO12 HT16b
      go_wp2_with fail
      refine HT13.out.mono ?_
      rintro e w14 ⟨rfl, hb14⟩
      have HB14 := Lib.hid (HB13.out.trans (hb14.mono HB13.out.size))
      clear hb14 HB13 HT13
      go_wp2_with fail
      refine (known7 _).mono ?_
      rintro e w15 ⟨rfl, hb15⟩
      have HB15 := Lib.hid (HB14.out.trans (hb15.mono HB14.out.size))
      clear hb15
      go_wp2
      go_ret
      exact ⟨rfl, HB15.out⟩
theorem makes_row (x : Option Addr) (n0 cp : Nat) (L : List (BA × BA)) (c : BA) (w : World) (e0 : L.length = n0) (k0 : RP w x L ∧ sizes L) (h0 : n0 ≤ maxLen) (hc : c.size ≤ maxLen) :
    Calls Tryd.prog 5 #[.slice x n0 cp, .string c] w fun e w' => e = .returned (.bool true) ∧ Below w.heap.size w w' := by
  subst e0
  exact makes_core x cp L c w k0.1 k0.2 h0 hc
end Go.Proofs.YtefiliomfiomfadDoor
