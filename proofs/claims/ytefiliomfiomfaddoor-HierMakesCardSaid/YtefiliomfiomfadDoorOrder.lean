/- HierOrder: the plain law, and the walk. -/
import Derived.Test.YtefiliomfiomfadDoorFixed
import Derived.Test.YtefiliomfiomfadDoorGiven
namespace Go.Proofs.YtefiliomfiomfadDoor
open Go.RowKit

theorem chain_more (H : List (BA × BA)) : ∀ (k m : Nat) (x : BA) (b : Bool) (l : List BA), chainN H k x b = some l → chainN H (k + m) x b = some l
  | 0, _, _, _, _, h => by simp [chainN] at h
  | k + 1, m, x, b, l, h => by
    rw [show k + 1 + m = (k + m) + 1 from by omega, chainN_succ]
    rw [chainN_succ] at h
    cases b with
    | false => exact h
    | true =>
      rw [if_pos rfl] at h ⊢
      cases ht : chainN H k (superF H x).1 (superF H x).2 with
      | none => rw [ht] at h; simp at h
      | some t => rw [chain_more H k m _ _ t ht]; rw [ht] at h; exact h
theorem chain_suffix (H : List (BA × BA)) : ∀ (k : Nat) (x : BA) (b : Bool) (l : List BA) (y : BA), chainN H k x b = some l → y ∈ l → ∃ k' l', k' ≤ k ∧ chainN H k' y true = some l' ∧ ∀ z ∈ l', z ∈ l
  | 0, _, _, _, _, h, _ => by simp [chainN] at h
  | k + 1, x, b, l, y, h, hy => by
    have h0 := h
    rw [chainN_succ] at h
    cases b with
    | false => simp at h; rw [h] at hy; cases hy
    | true =>
      rw [if_pos rfl] at h
      cases ht : chainN H k (superF H x).1 (superF H x).2 with
      | none => rw [ht] at h; simp at h
      | some t =>
        rw [ht] at h
        have hl : x :: t = l := by simpa using h
        rw [← hl] at hy
        rcases List.mem_cons.1 hy with rfl | hy
        · exact ⟨k + 1, l, Nat.le_refl _, h0, fun z hz => hz⟩
        · obtain ⟨k', l', h1, h2, h3⟩ := chain_suffix H k _ _ t y ht hy
          exact ⟨k', l', by omega, h2, fun z hz => by rw [← hl]; exact List.mem_cons_of_mem _ (h3 z hz)⟩
theorem in_mem {l : List BA} {t : BA} : inF l t = true ↔ t ∈ l := by
  unfold inF
  rw [List.any_eq_true]
  constructor
  · rintro ⟨x, hx, h⟩
    have : t = x := of_decide_eq_true h
    rw [this]
    exact hx
  · intro h
    exact ⟨t, h, decide_eq_true rfl⟩
theorem chain_trans {H : List (BA × BA)} (hT : Tot H) {x y z : BA} (h1 : y ∈ chainF H x) (h2 : z ∈ chainF H y) : z ∈ chainF H x := by
  obtain ⟨k', l', hk, hl, hz⟩ := chain_suffix H 100 x _ _ y (hT x).1 h1
  have h3 := chain_more H k' (100 - k') y true l' hl
  rw [show k' + (100 - k') = 100 from by omega] at h3
  have hy := (hT y).1
  cases hs : (look H y).isSome with
  | false =>
    rw [hs] at hy
    rw [show (100 : Nat) = 99 + 1 from rfl, chainN_succ] at hy
    simp at hy
    rw [hy] at h2
    cases h2
  | true =>
    rw [hs, h3] at hy
    have := Option.some.inj hy
    rw [← this] at h2
    exact hz z h2
theorem chain_obj {H : List (BA × BA)} (g : Good H) : chainF H obj = [obj] := by
  have h := (g.tot obj).1
  rw [g.obj_] at h
  simp only [Option.isSome_some] at h
  rw [show (100 : Nat) = 98 + 1 + 1 from rfl, chainN_succ, if_pos rfl] at h
  have hs : superF H obj = (⟨#[]⟩, false) := by unfold superF; rw [g.obj_]; simp
  rw [hs, chainN_succ] at h
  simp at h
  exact h.symm
theorem sub_refl (H : List (BA × BA)) (a : BA) : subF H a a = (decide (a = isN) || knownF H a) := by
  unfold subF mayF
  simp
theorem obj_not_null : ofObj ≠ isN := by decide +kernel
theorem sub_trans {H : List (BA × BA)} (g : Good H) {a b c : BA} (hc : c.size ≤ maxLen) (h1 : subF H a b = true) (h2 : subF H b c = true) : subF H a c = true := by
  have zo : ofObj.size ≤ maxLen := by have := k_small.2.2.2.2; unfold maxLen; omega
  by_cases e1 : a = b
  · rw [e1]; exact h2
  by_cases e2 : b = c
  · rw [← e2]; exact h1
  unfold subF at h1 h2
  rw [decide_eq_false e1] at h1
  rw [decide_eq_false e2] at h2
  simp only [Bool.false_or, Bool.and_eq_true, Bool.or_eq_true, decide_eq_true_eq] at h1 h2
  obtain ⟨⟨ma, mb⟩, ⟨ra, rb⟩, q1⟩ := h1
  obtain ⟨⟨_, mc⟩, ⟨_, rc⟩, q2⟩ := h2
  have fin : (a = isN ∨ c = ofObj ∨ (((classF a).2 = true ∧ (classF c).2 = true) ∧ inF (chainF H (classF a).1) (classF c).1 = true)) → subF H a c = true := by
    intro h
    unfold subF
    rw [ma, mc, ra, rc]
    simp only [Bool.and_self, Bool.true_and, Bool.or_eq_true, Bool.and_eq_true, decide_eq_true_eq]
    exact .inr h
  rcases q1 with e | e | ⟨⟨ca, cb⟩, hin⟩
  · exact fin (.inl e)
  · rw [e] at q2
    rcases q2 with h | h | ⟨⟨_, cc⟩, hin⟩
    · exact absurd h obj_not_null
    · exact fin (.inr (.inl h))
    · rw [class_obj] at hin
      simp only at hin
      rw [chain_obj g] at hin
      have hx := in_mem.1 hin
      have hx2 : (classF c).1 = obj := by simpa using hx
      have hcc : classF c = (obj, true) := by rw [← hx2, ← cc]
      exact fin (.inr (.inl (classF_inj hc zo hcc class_obj)))
  · rcases q2 with h | h | ⟨⟨_, cc⟩, hin2⟩
    · rw [h, class_null] at cb
      cases cb
    · exact fin (.inr (.inl h))
    · exact fin (.inr (.inr ⟨⟨ca, cc⟩, in_mem.2 (chain_trans g.tot (in_mem.1 hin) (in_mem.1 hin2))⟩))
theorem new_err {L : List (BA × BA)} : (∃ c k, newF L = (none, c, k) ∧ k ≠ 0 ∧ 0 ≤ k) ∨ (∃ H, newF L = (some H, ⟨#[]⟩, 0)) := by
  unfold newF
  by_cases h32 : 32 < L.length
  · rw [if_pos h32]
    exact .inl ⟨_, _, rfl, by decide, by decide⟩
  · rw [if_neg h32]
    cases fillF base L with
    | error c => exact .inl ⟨_, _, rfl, by decide, by decide⟩
    | ok H =>
      simp only
      unfold restF
      cases noneF H L with
      | some c => exact .inl ⟨_, _, rfl, by decide, by decide⟩
      | none =>
        simp only
        cases loopF H L with
        | some c => exact .inl ⟨_, _, rfl, by decide, by decide⟩
        | none => exact .inr ⟨_, rfl⟩

set_option maxRecDepth 100000 in
set_option maxHeartbeats 4000000 in
theorem order_core (x : Option Addr) (cp : Nat) (L : List (BA × BA)) (a b c : BA) (w : World) (hR : RP w x L) (hS : sizes L) (hlen : L.length ≤ maxLen) (ha : a.size ≤ maxLen) (hb : b.size ≤ maxLen) (hc : c.size ≤ maxLen) :
    Calls Tryd.prog 3 #[.slice x L.length cp, .string a, .string b, .string c] w fun e w' => e = .returned (.bool true) ∧ Below w.heap.size w w' := by
  have HL := hlen
  unfold maxLen at HL
  by_cases h60 : 60 < L.length
  · clear hR hS hlen ha hb hc
    go_enter Tryd.func3, Tryd.ntmps3
    go_wp2_with fail
    refine (known7 w).mono ?_
    rintro e w1 ⟨rfl, hb⟩
    have HB := Lib.hid hb
    clear hb
    go_wp2
    go_ret
    exact ⟨rfl, HB.out⟩
  · have HG := Lib.hid (given9 x cp L w hR (by omega))
    have HN := Lib.hid (fun (w' : World) (x' : Option Addr) (cp' : Nat) (hr : RC w' x' L) => new8 x' cp' L w' hS hr hlen)
    rcases new_err (L := L) with ⟨er, ek, he, hk, hk0⟩ | ⟨H, he⟩
    · rw [he] at HN
      have hk1 : (ek != 0) = true := by simpa using hk
      clear hR hS hlen ha hb hc he
      go_enter Tryd.func3, Tryd.ntmps3
      go_wp2_with fail
      refine HG.out.mono ?_
      rintro e w1 ⟨x', cp', rfl, hrc, hb1⟩
      have HRC := Lib.hid hrc
      have HB1 := Lib.hid hb1
      clear hrc hb1
      go_wp2_with fail
      refine (HN.out w1 x' cp' HRC.out).mono ?_
      rintro e w2 ⟨hb2, hq⟩
      simp only at hq
      obtain rfl := hq
      have HB2 := Lib.hid (HB1.out.trans (hb2.mono HB1.out.size))
      clear hb2
      go_wp2_with fail
      refine (known7 _).mono ?_
      rintro e w3 ⟨rfl, hb3⟩
      have HB3 := Lib.hid (HB2.out.trans (hb3.mono HB2.out.size))
      clear hb3
      go_wp2
      go_ret
      exact ⟨rfl, HB3.out⟩
    · rw [he] at HN
      obtain ⟨hg, _⟩ := new_good he
      have ht := hg.tot
      have HSUB := Lib.hid (fun (w : World) (F : Nat → Prop) (p : Value) (hp : HP w F p H 64) (hs : sizes H) (u v : BA) (hu : u.size ≤ maxLen) (hv : v.size ≤ maxLen) => sub10 hp hs ht u v hu hv)
      have HKN := Lib.hid (fun (w : World) (F : Nat → Prop) (p : Value) (hp : HP w F p H 64) => known11 hp a ha)
      have HREF := Lib.hid (sub_refl H a)
      have HTR : Hid (subF H a b = true → subF H b c = true → subF H a c = true) := Lib.hid (fun h1 h2 => sub_trans hg hc h1 h2)
      have HZ := Lib.hid (And.intro ha (And.intro hb hc))
      have hn := eqN a
      clear hR hS hlen ha hb hc he hg ht
      go_enter Tryd.func3, Tryd.ntmps3
      go_wp2_with fail
      refine HG.out.mono ?_
      rintro e w1 ⟨x', cp', rfl, hrc, hb1⟩
      have HRC := Lib.hid hrc
      have HB1 := Lib.hid hb1
      clear hrc hb1
      go_wp2_with fail
      refine (HN.out w1 x' cp' HRC.out).mono ?_
      rintro e w2 ⟨hb2, p, F, rfl, hp, _, hs, _⟩
      have HB2 := Lib.hid (HB1.out.trans (hb2.mono HB1.out.size))
      have HPP := Lib.hid hp
      have HAA := Lib.hid (HSUB.out w2 F p hp hs a a HZ.out.1 HZ.out.1)
      have HAB := Lib.hid (fun (w' : World) (hbl : Below w2.heap.size w2 w') => HSUB.out w' F p (hp.below hbl) hs a b HZ.out.1 HZ.out.2.1)
      have HBC := Lib.hid (fun (w' : World) (hbl : Below w2.heap.size w2 w') => HSUB.out w' F p (hp.below hbl) hs b c HZ.out.2.1 HZ.out.2.2)
      have HAC := Lib.hid (fun (w' : World) (hbl : Below w2.heap.size w2 w') => HSUB.out w' F p (hp.below hbl) hs a c HZ.out.1 HZ.out.2.2)
      have HKA := Lib.hid (fun (w' : World) (hbl : Below w2.heap.size w2 w') => HKN.out w' F p (hp.below hbl))
      rw [HREF.out] at HAA
      obtain ⟨hpb, rfl⟩ := hp.p
      clear hb2 hp hs
      generalize decide (a = isN) = n at *
      generalize knownF H a = k at *
      generalize subF H a b = s1 at *
      generalize subF H b c = s2 at *
      generalize subF H a c = s3 at *
      cases n
      · cases k
        · cases s1
          · go_wp2_with fail
            refine HAA.out.mono ?_
            rintro e w3 ⟨rfl, hb3⟩
            have HB3 := Lib.hid hb3
            clear hb3
            go_wp2_with fail
            refine (HKA.out w3 HB3.out).mono ?_
            rintro e w4 ⟨rfl, hb4⟩
            have HB4 := Lib.hid (HB3.out.trans (hb4.mono HB3.out.size))
            clear hb4
            go_wp2_with fail
            refine (HAB.out w4 HB4.out).mono ?_
            rintro e w5 ⟨rfl, hb5⟩
            have HB5 := Lib.hid (HB4.out.trans (hb5.mono HB4.out.size))
            clear hb5
            go_wp2_with fail
            refine (known7 _).mono ?_
            rintro e w6 ⟨rfl, hb6⟩
            have HB6 := Lib.hid (HB2.out.trans (HB5.out.trans (hb6.mono HB5.out.size) |>.mono HB2.out.size))
            clear hb6
            go_wp2
            go_ret
            exact ⟨rfl, HB6.out⟩
          · cases s2
            · go_wp2_with fail
              refine HAA.out.mono ?_
              rintro e w3 ⟨rfl, hb3⟩
              have HB3 := Lib.hid hb3
              clear hb3
              go_wp2_with fail
              refine (HKA.out w3 HB3.out).mono ?_
              rintro e w4 ⟨rfl, hb4⟩
              have HB4 := Lib.hid (HB3.out.trans (hb4.mono HB3.out.size))
              clear hb4
              go_wp2_with fail
              refine (HAB.out w4 HB4.out).mono ?_
              rintro e w5 ⟨rfl, hb5⟩
              have HB5 := Lib.hid (HB4.out.trans (hb5.mono HB4.out.size))
              clear hb5
              go_wp2_with fail
              refine (HBC.out w5 HB5.out).mono ?_
              rintro e w6 ⟨rfl, hb6⟩
              have HB6 := Lib.hid (HB5.out.trans (hb6.mono HB5.out.size))
              clear hb6
              go_wp2_with fail
              refine (known7 _).mono ?_
              rintro e w7 ⟨rfl, hb7⟩
              have HB7 := Lib.hid (HB2.out.trans (HB6.out.trans (hb7.mono HB6.out.size) |>.mono HB2.out.size))
              clear hb7
              go_wp2
              go_ret
              exact ⟨rfl, HB7.out⟩
            · obtain rfl : s3 = true := HTR.out rfl rfl
              go_wp2_with fail
              refine HAA.out.mono ?_
              rintro e w3 ⟨rfl, hb3⟩
              have HB3 := Lib.hid hb3
              clear hb3
              go_wp2_with fail
              refine (HKA.out w3 HB3.out).mono ?_
              rintro e w4 ⟨rfl, hb4⟩
              have HB4 := Lib.hid (HB3.out.trans (hb4.mono HB3.out.size))
              clear hb4
              go_wp2_with fail
              refine (HAB.out w4 HB4.out).mono ?_
              rintro e w5 ⟨rfl, hb5⟩
              have HB5 := Lib.hid (HB4.out.trans (hb5.mono HB4.out.size))
              clear hb5
              go_wp2_with fail
              refine (HBC.out w5 HB5.out).mono ?_
              rintro e w6 ⟨rfl, hb6⟩
              have HB6 := Lib.hid (HB5.out.trans (hb6.mono HB5.out.size))
              clear hb6
              go_wp2_with fail
              refine (HAC.out w6 HB6.out).mono ?_
              rintro e w7 ⟨rfl, hb7⟩
              have HB7 := Lib.hid (HB6.out.trans (hb7.mono HB6.out.size))
              clear hb7
              go_wp2_with fail
              refine (known7 _).mono ?_
              rintro e w8 ⟨rfl, hb8⟩
              have HB8 := Lib.hid (HB2.out.trans (HB7.out.trans (hb8.mono HB7.out.size) |>.mono HB2.out.size))
              clear hb8
              go_wp2
              go_ret
              exact ⟨rfl, HB8.out⟩
        · cases s1
          · go_wp2_with fail
            refine HAA.out.mono ?_
            rintro e w3 ⟨rfl, hb3⟩
            have HB3 := Lib.hid hb3
            clear hb3
            go_wp2_with fail
            refine (HKA.out w3 HB3.out).mono ?_
            rintro e w4 ⟨rfl, hb4⟩
            have HB4 := Lib.hid (HB3.out.trans (hb4.mono HB3.out.size))
            clear hb4
            go_wp2_with fail
            refine (HAB.out w4 HB4.out).mono ?_
            rintro e w5 ⟨rfl, hb5⟩
            have HB5 := Lib.hid (HB4.out.trans (hb5.mono HB4.out.size))
            clear hb5
            go_wp2_with fail
            refine (known7 _).mono ?_
            rintro e w6 ⟨rfl, hb6⟩
            have HB6 := Lib.hid (HB2.out.trans (HB5.out.trans (hb6.mono HB5.out.size) |>.mono HB2.out.size))
            clear hb6
            go_wp2
            go_ret
            exact ⟨rfl, HB6.out⟩
          · cases s2
            · go_wp2_with fail
              refine HAA.out.mono ?_
              rintro e w3 ⟨rfl, hb3⟩
              have HB3 := Lib.hid hb3
              clear hb3
              go_wp2_with fail
              refine (HKA.out w3 HB3.out).mono ?_
              rintro e w4 ⟨rfl, hb4⟩
              have HB4 := Lib.hid (HB3.out.trans (hb4.mono HB3.out.size))
              clear hb4
              go_wp2_with fail
              refine (HAB.out w4 HB4.out).mono ?_
              rintro e w5 ⟨rfl, hb5⟩
              have HB5 := Lib.hid (HB4.out.trans (hb5.mono HB4.out.size))
              clear hb5
              go_wp2_with fail
              refine (HBC.out w5 HB5.out).mono ?_
              rintro e w6 ⟨rfl, hb6⟩
              have HB6 := Lib.hid (HB5.out.trans (hb6.mono HB5.out.size))
              clear hb6
              go_wp2_with fail
              refine (known7 _).mono ?_
              rintro e w7 ⟨rfl, hb7⟩
              have HB7 := Lib.hid (HB2.out.trans (HB6.out.trans (hb7.mono HB6.out.size) |>.mono HB2.out.size))
              clear hb7
              go_wp2
              go_ret
              exact ⟨rfl, HB7.out⟩
            · obtain rfl : s3 = true := HTR.out rfl rfl
              go_wp2_with fail
              refine HAA.out.mono ?_
              rintro e w3 ⟨rfl, hb3⟩
              have HB3 := Lib.hid hb3
              clear hb3
              go_wp2_with fail
              refine (HKA.out w3 HB3.out).mono ?_
              rintro e w4 ⟨rfl, hb4⟩
              have HB4 := Lib.hid (HB3.out.trans (hb4.mono HB3.out.size))
              clear hb4
              go_wp2_with fail
              refine (HAB.out w4 HB4.out).mono ?_
              rintro e w5 ⟨rfl, hb5⟩
              have HB5 := Lib.hid (HB4.out.trans (hb5.mono HB4.out.size))
              clear hb5
              go_wp2_with fail
              refine (HBC.out w5 HB5.out).mono ?_
              rintro e w6 ⟨rfl, hb6⟩
              have HB6 := Lib.hid (HB5.out.trans (hb6.mono HB5.out.size))
              clear hb6
              go_wp2_with fail
              refine (HAC.out w6 HB6.out).mono ?_
              rintro e w7 ⟨rfl, hb7⟩
              have HB7 := Lib.hid (HB6.out.trans (hb7.mono HB6.out.size))
              clear hb7
              go_wp2_with fail
              refine (known7 _).mono ?_
              rintro e w8 ⟨rfl, hb8⟩
              have HB8 := Lib.hid (HB2.out.trans (HB7.out.trans (hb8.mono HB7.out.size) |>.mono HB2.out.size))
              clear hb8
              go_wp2
              go_ret
              exact ⟨rfl, HB8.out⟩
      · cases s1
        · go_wp2_with fail
          refine HAA.out.mono ?_
          rintro e w3 ⟨rfl, hb3⟩
          have HB3 := Lib.hid hb3
          clear hb3
          go_wp2_with fail
          refine (HAB.out w3 HB3.out).mono ?_
          rintro e w4 ⟨rfl, hb4⟩
          have HB4 := Lib.hid (HB3.out.trans (hb4.mono HB3.out.size))
          clear hb4
          go_wp2_with fail
          refine (known7 _).mono ?_
          rintro e w5 ⟨rfl, hb5⟩
          have HB5 := Lib.hid (HB2.out.trans (HB4.out.trans (hb5.mono HB4.out.size) |>.mono HB2.out.size))
          clear hb5
          go_wp2
          go_ret
          exact ⟨rfl, HB5.out⟩
        · cases s2
          · go_wp2_with fail
            refine HAA.out.mono ?_
            rintro e w3 ⟨rfl, hb3⟩
            have HB3 := Lib.hid hb3
            clear hb3
            go_wp2_with fail
            refine (HAB.out w3 HB3.out).mono ?_
            rintro e w4 ⟨rfl, hb4⟩
            have HB4 := Lib.hid (HB3.out.trans (hb4.mono HB3.out.size))
            clear hb4
            go_wp2_with fail
            refine (HBC.out w4 HB4.out).mono ?_
            rintro e w5 ⟨rfl, hb5⟩
            have HB5 := Lib.hid (HB4.out.trans (hb5.mono HB4.out.size))
            clear hb5
            go_wp2_with fail
            refine (known7 _).mono ?_
            rintro e w6 ⟨rfl, hb6⟩
            have HB6 := Lib.hid (HB2.out.trans (HB5.out.trans (hb6.mono HB5.out.size) |>.mono HB2.out.size))
            clear hb6
            go_wp2
            go_ret
            exact ⟨rfl, HB6.out⟩
          · obtain rfl : s3 = true := HTR.out rfl rfl
            go_wp2_with fail
            refine HAA.out.mono ?_
            rintro e w3 ⟨rfl, hb3⟩
            have HB3 := Lib.hid hb3
            clear hb3
            go_wp2_with fail
            refine (HAB.out w3 HB3.out).mono ?_
            rintro e w4 ⟨rfl, hb4⟩
            have HB4 := Lib.hid (HB3.out.trans (hb4.mono HB3.out.size))
            clear hb4
            go_wp2_with fail
            refine (HBC.out w4 HB4.out).mono ?_
            rintro e w5 ⟨rfl, hb5⟩
            have HB5 := Lib.hid (HB4.out.trans (hb5.mono HB4.out.size))
            clear hb5
            go_wp2_with fail
            refine (HAC.out w5 HB5.out).mono ?_
            rintro e w6 ⟨rfl, hb6⟩
            have HB6 := Lib.hid (HB5.out.trans (hb6.mono HB5.out.size))
            clear hb6
            go_wp2_with fail
            refine (known7 _).mono ?_
            rintro e w7 ⟨rfl, hb7⟩
            have HB7 := Lib.hid (HB2.out.trans (HB6.out.trans (hb7.mono HB6.out.size) |>.mono HB2.out.size))
            clear hb7
            go_wp2
            go_ret
            exact ⟨rfl, HB7.out⟩
theorem order_row (x : Option Addr) (n0 cp : Nat) (L : List (BA × BA)) (a b c : BA) (w : World) (e0 : L.length = n0) (k0 : RP w x L ∧ sizes L) (h0 : n0 ≤ maxLen) (ha : a.size ≤ maxLen) (hb : b.size ≤ maxLen) (hc : c.size ≤ maxLen) :
    Calls Tryd.prog 3 #[.slice x n0 cp, .string a, .string b, .string c] w fun e w' => e = .returned (.bool true) ∧ Below w.heap.size w w' := by
  subst e0
  exact order_core x cp L a b c w k0.1 k0.2 h0 ha hb hc
end Go.Proofs.YtefiliomfiomfadDoor
