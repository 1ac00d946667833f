/- The reference's Names, Chain, Below. -/
import Derived.Test.YtefiliomfiomfadDoorRef
namespace Go.Proofs.YtefiliomfiomfadDoor
open Go.RowKit

/-- What a call that makes texts leaves. -/
def FS (w : World) (l : List BA) (e : Ending) (w' : World) : Prop := ∃ v, e = .returned v ∧ OS w' v l ∧ (∀ g, v.ownBlock = some g → w.heap.size ≤ g) ∧ Below w.heap.size w w'
/-- One text more. -/
theorem app_step {w wr w2 : World} {u v2 : Value} {d : BA} (hg : ∀ g, u.ownBlock = some g → w.heap.size ≤ g) (hb : Below w.heap.size w wr) (hg2 : (wr.alloc (.cells #[.string d] 9)).grownBy w2 u.ownBlock) (hl2 : v2.ownBlock = u.ownBlock ∨ v2.ownBlock = some (wr.heap.size + 1)) :
    (∀ g, v2.ownBlock = some g → w.heap.size ≤ g) ∧ Below w.heap.size w w2 := by
  have hc2 : Chg (fun g => u.ownBlock = some g) wr w2 := (Chg.alloc _ wr _).trans (Chg.grown (F := fun g => u.ownBlock = some g) hg2 (fun _ e => e)) (fun _ e => .inl e)
  refine ⟨fun g hgk => ?_, hb.trans (hc2.below hb.size hg)⟩
  rcases hl2 with e | e
  · exact hg g (e.symm.trans hgk)
  · have e1 := Option.some.inj (e.symm.trans hgk)
    have := hb.size
    omega
set_option maxHeartbeats 1000000 in
theorem names18 {w : World} {F : Nat → Prop} {p : Value} {H : List (BA × BA)} (h : RH w F p H) (hl : H.length ≤ 64) : Calls Tryd.prog 18 #[p] w (FS w (H.map (·.1))) := by
  have HH := Lib.hid h
  obtain ⟨R, hp⟩ := h.p
  subst hp
  clear h
  go_enter Tryd.func18, Tryd.ntmps18
  go_wp2
  go_loopw [3, 4] (fun v i wr => ∃ k : Nat, k ≤ H.length ∧ i = .int .i64 k ∧ Hid (OS wr v ((H.take k).map (·.1))) ∧ Hid (∀ g, v.ownBlock = some g → w.heap.size ≤ g) ∧ Hid (Below w.heap.size w wr)) (fun _ i _ => H.length - (intOf i).toNat)
  case atStart => exact ⟨0, Nat.zero_le _, rfl, Lib.hid (OS.nil _), Lib.hid (fun g hg => by cases hg), Lib.hid (Below.refl _ _)⟩
  case round =>
    obtain ⟨k, hk, rfl, ho, hg, hb⟩ := hrel
    obtain ⟨R', a, cp, e0, c0, hr⟩ := (HH.out.below hb.out).see
    injection e0 with e0
    injection e0 with e0
    injection e0 with e0
    subst e0
    by_cases hkl : k < H.length
    · obtain ⟨b, o, rfl, hbl, hcs⟩ := hr (fun e => by rw [e] at hkl; simp at hkl)
      obtain ⟨y0, _⟩ := hcs k hkl
      have htk : (H.take (k + 1)).map (·.1) = (H.take k).map (·.1) ++ [H[k].1] := by rw [List.take_succ_eq_append_getElem hkl, List.map_append]; rfl
      generalize H[k].1 = nm at *
      have HTK := Lib.hid htk
      have HLN : Hid (((H.take k).map (·.1)).length ≤ 1048576) := Lib.hid (by rw [List.length_map, List.length_take]; omega)
      clear hcs htk hr
      go_wp2_with (at_builtin; refine wpList_appS rfl (.tmp 14) (.tmp 23) rfl u3 ((H.take k).map (·.1)) wr.heap.size nm rfl rfl (ho.out.al _) (by rw [World.cell?_alloc_mark]; rfl) HLN.out ?_)
      intro v2 w2 ho2 hg2 hl2
      obtain ⟨g2, b2⟩ := app_step hg.out hb.out hg2 hl2
      have HG2 := Lib.hid g2
      have HB2 := Lib.hid b2
      have HO2 : Hid (OS w2 v2 ((H.take (k + 1)).map (·.1))) := Lib.hid (by rw [HTK.out]; simpa using ho2)
      clear ho2 hg2 hl2 g2 b2 c0 y0
      go_wp2
      go_roundw
      case rel => exact ⟨k + 1, by omega, by go_num, HO2, HG2, HB2⟩
      case measure => simp [intOf]; omega
    · have HO : Hid (OS wr u3 (H.map (·.1))) := Lib.hid (by
        have := ho.out
        rw [List.take_of_length_le (by omega)] at this
        exact this)
      clear ho hr
      go_wp2
      go_ret
      exact ⟨_, rfl, HO.out, hg.out, hb.out⟩
theorem os_one (w : World) (c : BA) : OS (w.alloc (.cells #[.string c] 9)) (.slice (some ⟨w.heap.size, 0, none⟩) 1 1) [c] := World.ownsRow_lit w #[.string c] 1 (Nat.zero_le _) (by unfold maxLen; omega) (by rfl)
set_option maxRecDepth 100000 in
set_option maxHeartbeats 1000000 in
theorem chain22 {w : World} {F : Nat → Prop} {p : Value} {H : List (BA × BA)} (h : RH w F p H) (hl : H.length ≤ 64) (c : BA) (k : Nat) (hk : k ≤ 1000) (l : List BA) (hc : chainN H k c (look H c).isSome = some l) (h60 : l.length ≤ 60) :
    Calls Tryd.prog 22 #[p, .string c] w (FS w l) := by
  have HH := Lib.hid h
  have HHA := Lib.hid (has20 h hl c)
  obtain ⟨R, hp⟩ := h.p
  subst hp
  clear h
  cases hs : (look H c).isSome with
  | false =>
    rw [hs] at HHA hc
    have HX : Hid (l = []) := Lib.hid (by
      cases k with
      | zero => simp [chainN] at hc
      | succ k => rw [chainN_succ] at hc; simpa using hc)
    clear hc hs
    go_enter Tryd.func22, Tryd.ntmps22
    go_wp2_with fail
    refine HHA.out.mono ?_
    rintro e w1 ⟨rfl, rfl⟩
    go_wp2
    go_ret
    rw [HX.out]
    exact ⟨_, rfl, OS.nil _, (fun g hg => by cases hg), Below.refl _ _⟩
  | true =>
    rw [hs] at HHA hc
    obtain ⟨q, rfl⟩ : ∃ q, k = q + 1 := by
      cases k with
      | zero => simp [chainN] at hc
      | succ k => exact ⟨k, rfl⟩
    have HC := Lib.hid hc
    have H60 := Lib.hid h60
    clear hc hs h60
    go_enter Tryd.func22, Tryd.ntmps22
    go_wp2_with fail
    refine HHA.out.mono ?_
    rintro e w1 ⟨rfl, rfl⟩
    go_wp2
    go_loopg [1, 5] q (fun kq v1 v5 wr => ∃ (d : BA) (done : List BA), v1 = .string d ∧ Hid (done.length + kq = q) ∧ Hid (OS wr v5 (done ++ [d])) ∧ Hid (∀ g, v5.ownBlock = some g → w1.heap.size ≤ g) ∧ Hid (Below w1.heap.size w1 wr) ∧ Hid ((chainN H (kq + 1) d true).map (done ++ ·) = some l))
    case atStart => exact ⟨c, [], rfl, Lib.hid (by simp), Lib.hid (os_one w1 c), Lib.hid (fun g hg => by have : w1.heap.size = g := Option.some.inj hg; omega), Lib.hid ((Below.refl _ _).alloc (Nat.le_refl _) _), Lib.hid (by rw [HC.out]; simp)⟩
    case round =>
      obtain ⟨d, done, rfl, hkq, ho, hg, hbl, hm⟩ := hrel
      have h2 := hm.out
      rw [chainN_succ, if_pos rfl] at h2
      have HSU := Lib.hid (super15 (HH.out.below hbl.out) hl d)
      obtain ⟨⟨x, y⟩, hx⟩ : ∃ r, superF H d = r := ⟨_, rfl⟩
      rw [hx] at HSU h2
      simp only at HSU h2
      obtain ⟨a5, n5, c5, rfl⟩ := ho.out.shape3
      have hn5 : n5 = done.length + 1 := by
        obtain ⟨a', c', e⟩ := ho.out.shape
        injection e with _ e _
        rw [e]
        simp
      cases y with
      | false =>
        have HX : Hid (l = done ++ [d]) := Lib.hid (by
          cases gk with
          | zero => simp [chainN] at h2
          | succ g => rw [chainN_succ] at h2; simpa using h2.symm)
        clear h2 hm hx hn5
        go_wp2_with fail
        refine HSU.out.mono ?_
        rintro e w3 ⟨rfl, rfl⟩
        go_wp2
        go_ret
        rw [HX.out]
        exact ⟨_, rfl, ho.out, hg.out, hbl.out⟩
      | true =>
        cases gk with
        | zero => exact absurd h2 (by simp [chainN])
        | succ g =>
          rw [Option.map_map] at h2
          have hlen : done.length + 1 ≤ 60 := by
            cases ht : chainN H (g + 1) x true with
            | none => rw [ht] at h2; simp at h2
            | some t =>
              rw [ht] at h2
              have e := congrArg List.length (Option.some.inj h2)
              simp at e
              have := H60.out
              omega
          have HM : Hid ((chainN H (g + 1) x true).map ((done ++ [d]) ++ ·) = some l) := Lib.hid (by
            rw [← h2]
            congr 1
            funext z
            simp)
          have HKQ : Hid ((done ++ [d]).length + g = q) := Lib.hid (by have := hkq.out; simp; omega)
          have hd60 : ¬ (60 : Int) < (n5 : Int) := by omega
          have HLN : Hid ((done ++ [d]).length ≤ 1048576) := Lib.hid (by simp; omega)
          clear h2 hm hx hkq hn5
          go_wp2_with fail
          refine HSU.out.mono ?_
          rintro e w3 ⟨rfl, rfl⟩
          go_wp2_with (at_builtin; refine wpList_appS rfl (.tmp 28) (.tmp 30) rfl (.slice a5 n5 c5) (done ++ [d]) w3.heap.size x rfl rfl (ho.out.al _) (by rw [World.cell?_alloc_mark]; rfl) HLN.out ?_)
          intro v2 w2 ho2 hg2 hl2
          obtain ⟨g2, b2⟩ := app_step hg.out hbl.out hg2 hl2
          have HG2 := Lib.hid g2
          have HB2 := Lib.hid b2
          have HO2 : Hid (OS w2 v2 (done ++ [d] ++ [x])) := Lib.hid (by simpa using ho2)
          clear ho2 hg2 hl2 g2 b2
          go_wp2
          go_roundg g
          case rel => exact ⟨x, done ++ [d], rfl, HKQ, HO2, HG2, HB2, HM⟩
          case measure => omega
def belowF (H : List (BA × BA)) (c : BA) : List BA := (H.map (·.1)).filter (fun n => inF (chainF H n) c)
set_option maxRecDepth 100000 in
set_option maxHeartbeats 1000000 in
theorem below24 {w : World} {F : Nat → Prop} {p : Value} {H : List (BA × BA)} (h : RH w F p H) (hl : H.length ≤ 64) (hT : ∀ x, chainN H 100 x (look H x).isSome = some (chainF H x) ∧ (chainF H x).length ≤ 60) (c : BA) :
    Calls Tryd.prog 24 #[p, .string c] w (FS w (belowF H c)) := by
  have HH := Lib.hid h
  have HT := Lib.hid hT
  obtain ⟨R, hp⟩ := h.p
  subst hp
  obtain ⟨f, hf⟩ : ∃ f : BA → Bool, f = fun n => inF (chainF H n) c := ⟨_, rfl⟩
  have HF := Lib.hid hf
  have HBF : Hid (belowF H c = (H.map (·.1)).filter f) := Lib.hid (by rw [hf]; rfl)
  rw [HBF.out]
  clear h hT hf HBF
  go_enter Tryd.func24, Tryd.ntmps24
  go_wp2
  go_loopw [5, 6] (fun v i wr => ∃ k : Nat, k ≤ H.length ∧ i = .int .i64 k ∧ Hid (OS wr v (((H.take k).map (·.1)).filter f)) ∧ Hid (∀ g, v.ownBlock = some g → w.heap.size ≤ g) ∧ Hid (Below w.heap.size w wr)) (fun _ i _ => H.length - (intOf i).toNat)
  case atStart => exact ⟨0, Nat.zero_le _, rfl, Lib.hid (OS.nil _), Lib.hid (fun g hg => by cases hg), Lib.hid (Below.refl _ _)⟩
  case round =>
    obtain ⟨k, hk, rfl, ho, hg, hb⟩ := hrel
    obtain ⟨R', a, cp, e0, c0, hr⟩ := (HH.out.below hb.out).see
    injection e0 with e0
    injection e0 with e0
    injection e0 with e0
    subst e0
    by_cases hkl : k < H.length
    · obtain ⟨b, o, rfl, hbl, hcs⟩ := hr (fun e => by rw [e] at hkl; simp at hkl)
      obtain ⟨y0, _⟩ := hcs k hkl
      have htk : ((H.take (k + 1)).map (·.1)).filter f = ((H.take k).map (·.1)).filter f ++ (if f H[k].1 then [H[k].1] else []) := by
        rw [List.take_succ_eq_append_getElem hkl, List.map_append, List.filter_append]
        simp [List.filter_cons]
      have HCH := Lib.hid (chain22 (HH.out.below hb.out) hl H[k].1 100 (by omega) _ (HT.out H[k].1).1 (HT.out H[k].1).2)
      have HFN : Hid (inF (chainF H H[k].1) c = f H[k].1) := Lib.hid (by rw [HF.out])
      have HL6 := Lib.hid (HT.out H[k].1).2
      generalize H[k].1 = nm at *
      generalize chainF H nm = ln at *
      have HTK := Lib.hid htk
      have HLN : Hid ((((H.take k).map (·.1)).filter f).length ≤ 1048576) := Lib.hid (by
        have := List.length_filter_le f ((H.take k).map (·.1))
        rw [List.length_map, List.length_take] at this
        omega)
      clear hcs htk hr
      go_wp2_with fail
      refine HCH.out.mono ?_
      rintro e w4 ⟨v4, rfl, ho4, hg4, hb4⟩
      have hb5 := hb.out.trans (hb4.mono hb.out.size)
      have HB5 := Lib.hid hb5
      have HC4 := Lib.hid (Chg.of_below (F := fun _ => False) hb4)
      have HO5 := Lib.hid (ho.out.chg HC4.out (fun _ _ e => e))
      have HAM := Lib.hid (among40 ln v4 c w4 ho4.rs (by have := HL6.out; omega))
      have y4 := (hb4.cell (p := ⟨b, o + k * 2, none⟩) hbl).trans y0
      have hR := World.block_lt_of_cell? wr _ c0
      have c4 := (hb4.cell (p := ⟨R, 0, none⟩) hR).trans c0
      clear ho4 hg4 hb4 hb5 y0 c0 hR
      cases hfn : f nm with
      | true =>
        have h3 := HTK.out
        rw [hfn] at h3
        have HTK2 : Hid (((H.take (k + 1)).map (·.1)).filter f = ((H.take k).map (·.1)).filter f ++ [nm]) := Lib.hid h3
        rw [HFN.out, hfn] at HAM
        clear h3 hfn HTK HFN
        go_wp2_with fail
        refine HAM.out.mono ?_
        rintro e w5 ⟨rfl, rfl⟩
        go_wp2_with (at_builtin; refine wpList_appS rfl (.tmp 28) (.tmp 37) rfl u5 (((H.take k).map (·.1)).filter f) w5.heap.size nm rfl rfl (HO5.out.al _) (by rw [World.cell?_alloc_mark]; rfl) HLN.out ?_)
        intro v2 w2 ho2 hg2 hl2
        obtain ⟨g2, b2⟩ := app_step hg.out HB5.out hg2 hl2
        have HG2 := Lib.hid g2
        have HB2 := Lib.hid b2
        have HO2 : Hid (OS w2 v2 (((H.take (k + 1)).map (·.1)).filter f)) := Lib.hid (by rw [HTK2.out]; simpa using ho2)
        clear ho2 hg2 hl2 g2 b2 c4 y4
        go_wp2
        go_roundw
        case rel => exact ⟨k + 1, by omega, by go_num, HO2, HG2, HB2⟩
        case measure => simp [intOf]; omega
      | false =>
        have h3 := HTK.out
        rw [hfn] at h3
        have HTK2 : Hid (OS w4 u5 (((H.take (k + 1)).map (·.1)).filter f)) := Lib.hid (by rw [h3]; simpa using HO5.out)
        rw [HFN.out, hfn] at HAM
        clear h3 hfn HTK HFN
        go_wp2_with fail
        refine HAM.out.mono ?_
        rintro e w5 ⟨rfl, rfl⟩
        go_wp2
        go_roundw
        case rel => exact ⟨k + 1, by omega, by go_num, HTK2, hg, HB5⟩
        case measure => simp [intOf]; omega
    · have HO : Hid (OS wr u5 ((H.map (·.1)).filter f)) := Lib.hid (by
        have := ho.out
        rw [List.take_of_length_le (by omega)] at this
        exact this)
      clear ho hr
      go_wp2
      go_ret
      exact ⟨_, rfl, HO.out, hg.out, hb.out⟩
end Go.Proofs.YtefiliomfiomfadDoor
