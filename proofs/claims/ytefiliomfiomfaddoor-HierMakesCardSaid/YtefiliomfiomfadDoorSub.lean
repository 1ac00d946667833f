/- hier's Sub. -/
import Derived.Test.YtefiliomfiomfadDoorChain
namespace Go.Proofs.YtefiliomfiomfadDoor
open Go.RowKit Go.Maps

set_option maxHeartbeats 1000000 in
theorem index44 (l : List BA) (v : Value) (t : BA) (w : World) (hl : RS w v l) (hlen : l.length ≤ 1048576) :
    Calls Tryd.prog 44 #[v, .string t] w fun e w' => e = .returned (.int .i64 (idxN (fun s => decide (t = s)) l 0)) ∧ w' = w := by
  obtain ⟨a, c, rfl, hlc, _, hcl⟩ := hl
  have HCL := Lib.hid hcl
  obtain ⟨g, hg⟩ : ∃ g : BA → Bool, g = fun s => decide (t = s) := ⟨_, rfl⟩
  have HG : Hid (∀ s, (t.toList == s.toList) = g s) := Lib.hid (fun s => by rw [hg, beqS])
  rw [← hg]
  clear hcl hg
  go_enter Tryd.func44, Tryd.ntmps44
  go_wp2
  go_loop [8] (fun i => ∃ k : Nat, k ≤ l.length ∧ i = .int .i64 k ∧ Hid (idxN g l 0 = idxN g (l.drop k) k)) (fun i => l.length - (intOf i).toNat)
  case atStart => exact ⟨0, Nat.zero_le _, rfl, Lib.hid rfl⟩
  case round =>
    obtain ⟨k, hk, rfl, hr⟩ := hrel
    by_cases hkl : k < l.length
    · obtain ⟨b, o, rfl, hbl, hcell⟩ := HCL.out (fun e => by rw [e] at hkl; simp at hkl)
      have hc := hcell k hkl
      have hr2 := hr.out
      rw [List.drop_eq_getElem_cons hkl, idxN_cons] at hr2
      generalize l[k] = s at *
      have hb := HG.out s
      have HR := Lib.hid hr2
      clear hcell hr hr2
      cases hgs : g s with
      | true =>
        rw [hgs] at hb
        have h2 := HR.out
        rw [hgs] at h2
        have HX : Hid (idxN g l 0 = (k : Int)) := Lib.hid h2
        clear h2 hgs HR
        go_wp2
        go_ret
        rw [HX.out]
        exact ⟨rfl, rfl⟩
      | false =>
        rw [hgs] at hb
        have h2 := HR.out
        rw [hgs] at h2
        have HX : Hid (idxN g l 0 = idxN g (l.drop (k + 1)) (k + 1)) := Lib.hid h2
        clear h2 hgs HR
        go_wp2
        go_round
        case rel => exact ⟨k + 1, by omega, by go_num, HX⟩
        case measure => simp [intOf]; omega
    · have hr2 := hr.out
      rw [List.drop_of_length_le (by omega)] at hr2
      have HX : Hid (idxN g l 0 = -1) := Lib.hid hr2
      clear hr hr2
      go_wp2
      go_ret
      rw [HX.out]
      exact ⟨rfl, rfl⟩
def inF (l : List BA) (t : BA) : Bool := l.any (fun s => decide (t = s))
theorem contains31 (l : List BA) (v : Value) (t : BA) (w : World) (hl : RS w v l) (hlen : l.length ≤ 1048576) :
    Calls Tryd.prog 31 #[v, .string t] w fun e w' => e = .returned (.bool (inF l t)) ∧ w' = w := by
  have HC := Lib.hid (index44 l v t w hl hlen)
  have HI := Lib.hid (idxN_any (fun s => decide (t = s)) l 0)
  unfold inF
  clear hl
  generalize idxN (fun s => decide (t = s)) l 0 = n at *
  go_enter Tryd.func31, Tryd.ntmps31
  go_wp2_with fail
  refine HC.out.mono ?_
  rintro e w1 ⟨rfl, rfl⟩
  go_wp2
  go_ret
  rw [← HI.out]
  exact ⟨rfl, rfl⟩
/-- A class and all above it. -/
def chainF (H : List (BA × BA)) (x : BA) : List BA := (chainN H 100 x (look H x).isSome).getD []
/-- No class is above itself. -/
def Tot (H : List (BA × BA)) : Prop := ∀ x, chainN H 100 x (look H x).isSome = some (chainF H x) ∧ (chainF H x).length ≤ 100
def subF (H : List (BA × BA)) (a b : BA) : Bool :=
  (mayF H a && mayF H b) && (decide (a = b) || ((refF a && refF b) && (decide (a = isN) || (decide (b = ofObj) || (((classF a).2 && (classF b).2) && inF (chainF H (classF a).1) (classF b).1)))))
theorem class_size (a : BA) (ha : a.size ≤ maxLen) : (classF a).1.size ≤ maxLen := by
  obtain ⟨x, b, hx⟩ : ∃ x b, classF a = (x, b) := ⟨_, _, rfl⟩
  rw [hx]
  cases b with
  | true => have := (classF_spec ha hx).2; show x.size ≤ _; omega
  | false =>
    unfold classF at hx
    split at hx
    · injection hx with _ h; cases h
    · injection hx with h _
      rw [← h]
      unfold maxLen
      simp [ByteArray.size]
theorem rs_two (w : World) (a b : BA) : RS (w.alloc (.cells #[.string a, .string b] 9)) (.slice (some ⟨w.heap.size, 0, none⟩) 2 2) [a, b] := by
  refine ⟨_, 2, rfl, Nat.le_refl _, (fun h => by cases h), fun _ => ⟨w.heap.size, 0, rfl, by simp, ?_⟩⟩
  intro i hi
  rw [World.cell?_alloc_mark]
  have : i = 0 ∨ i = 1 := by have : i < 2 := hi; omega
  rcases this with rfl | rfl <;> rfl
theorem sub_nil (a b : BA) (w : World) : Calls Tryd.prog 10 #[.pointer none, .string a, .string b] w fun e w' => e = .returned (.bool false) ∧ Below w.heap.size w w' := by
  go_enter Tryd.func10, Tryd.ntmps10
  go_wp2_with fail
  refine (may_nil _ _).mono ?_
  rintro e w1 ⟨rfl, hb⟩
  have HB := Lib.hid (((Below.refl _ w).alloc (Nat.le_refl _) _).trans (hb.mono (by simp)))
  clear hb
  go_wp2
  go_ret
  exact ⟨rfl, HB.out⟩
set_option maxRecDepth 100000 in
set_option maxHeartbeats 4000000 in
theorem sub10 {w : World} {F : Nat → Prop} {p : Value} {H : List (BA × BA)} {N : Nat} (h : HP w F p H N) (hH : sizes H) (hT : Tot H) (a b : BA) (ha : a.size ≤ maxLen) (hb : b.size ≤ maxLen) :
    Calls Tryd.prog 10 #[p, .string a, .string b] w fun e w' => e = .returned (.bool (subF H a b)) ∧ Below w.heap.size w w' := by
  have HM := Lib.hid (may27 (h.chg (Chg.alloc (fun _ => False) w (.cells #[.string a, .string b] 9)) (fun _ _ e => e)) [a, b] _ (rs_two w a b) (by simp) (by intro s hs; simp at hs; rcases hs with rfl | rfl <;> assumption))
  have hm : [a, b].all (mayF H) = (mayF H a && mayF H b) := by simp
  rw [hm] at HM
  have h1 := beqS a b
  have HRA := Lib.hid (fun w => ref28 a ha w)
  have HRB := Lib.hid (fun w => ref28 b hb w)
  have h2 := eqN a
  have HOF := Lib.hid of29
  have h3 := beqS b ofObj
  have h4 : (b.toList == [76, 79, 98, 106, 101, 99, 116, 59]) = decide (b = ofObj) := by rw [← h3, show ofObj.toList = [76, 79, 98, 106, 101, 99, 116, 59] from ByteArray.toList_mk [76, 79, 98, 106, 101, 99, 116, 59]]
  have HCA := Lib.hid (fun w => class30 a ha w)
  have HCB := Lib.hid (fun w => class30 b hb w)
  have HCH := Lib.hid (fun (w' : World) (hbl : Below w.heap.size w w') => chain21 (h.below hbl) hH (classF a).1 (class_size a ha) 100 (by omega) _ (hT (classF a).1).1)
  have HLN := Lib.hid (hT (classF a).1).2
  obtain ⟨hp, rfl⟩ := h.p
  unfold subF
  generalize (mayF H a && mayF H b) = m at *
  generalize decide (a = b) = e0 at *
  generalize refF a = ra at *
  generalize refF b = rb at *
  generalize decide (a = isN) = na at *
  generalize decide (b = ofObj) = ob at *
  obtain ⟨x, ca, hx⟩ : ∃ x ca, classF a = (x, ca) := ⟨_, _, rfl⟩
  obtain ⟨y, cb, hy⟩ : ∃ y cb, classF b = (y, cb) := ⟨_, _, rfl⟩
  rw [hx] at HCA HCH HLN ⊢
  rw [hy] at HCB ⊢
  simp only at HCA HCB HCH HLN ⊢
  have HCO := Lib.hid (fun (w' : World) (v : Value) (ho : OS w' v (chainF H x)) => contains31 (chainF H x) v y w' ho.rs (by have := HLN.out; omega))
  generalize inF (chainF H x) y = r at *
  clear h hH hT ha hb hx hy hm
  cases m
  · go_enter Tryd.func10, Tryd.ntmps10
    go_wp2_with fail
    refine HM.out.mono ?_
    rintro e w1 ⟨rfl, hb1⟩
    have HB1 := Lib.hid (((Below.refl _ w).alloc (Nat.le_refl _) _).trans (hb1.mono (by simp)))
    clear hb1
    go_wp2
    go_ret
    exact ⟨by simp, HB1.out⟩
  · cases e0
    · cases ra
      · go_enter Tryd.func10, Tryd.ntmps10
        go_wp2_with fail
        refine HM.out.mono ?_
        rintro e w1 ⟨rfl, hb1⟩
        have HB1 := Lib.hid (((Below.refl _ w).alloc (Nat.le_refl _) _).trans (hb1.mono (by simp)))
        clear hb1
        go_wp2_with fail
        refine (HRA.out w1).mono ?_
        rintro e w2 ⟨rfl, hb2⟩
        have HB2 := Lib.hid (HB1.out.trans (hb2.mono HB1.out.size))
        clear hb2
        go_wp2
        go_ret
        exact ⟨by simp, HB2.out⟩
      · cases rb
        · go_enter Tryd.func10, Tryd.ntmps10
          go_wp2_with fail
          refine HM.out.mono ?_
          rintro e w1 ⟨rfl, hb1⟩
          have HB1 := Lib.hid (((Below.refl _ w).alloc (Nat.le_refl _) _).trans (hb1.mono (by simp)))
          clear hb1
          go_wp2_with fail
          refine (HRA.out w1).mono ?_
          rintro e w2 ⟨rfl, hb2⟩
          have HB2 := Lib.hid (HB1.out.trans (hb2.mono HB1.out.size))
          clear hb2
          go_wp2_with fail
          refine (HRB.out w2).mono ?_
          rintro e w3 ⟨rfl, hb3⟩
          have HB3 := Lib.hid (HB2.out.trans (hb3.mono HB2.out.size))
          clear hb3
          go_wp2
          go_ret
          exact ⟨by simp, HB3.out⟩
        · cases na
          · cases ob
            · cases ca
              · go_enter Tryd.func10, Tryd.ntmps10
                go_wp2_with fail
                refine HM.out.mono ?_
                rintro e w1 ⟨rfl, hb1⟩
                have HB1 := Lib.hid (((Below.refl _ w).alloc (Nat.le_refl _) _).trans (hb1.mono (by simp)))
                clear hb1
                go_wp2_with fail
                refine (HRA.out w1).mono ?_
                rintro e w2 ⟨rfl, hb2⟩
                have HB2 := Lib.hid (HB1.out.trans (hb2.mono HB1.out.size))
                clear hb2
                go_wp2_with fail
                refine (HRB.out w2).mono ?_
                rintro e w3 ⟨rfl, hb3⟩
                have HB3 := Lib.hid (HB2.out.trans (hb3.mono HB2.out.size))
                clear hb3
                go_wp2_with fail
                refine (HOF.out w3).mono ?_
                rintro e w4 ⟨rfl, hb4⟩
                have HB4 := Lib.hid (HB3.out.trans (hb4.mono HB3.out.size))
                clear hb4
                go_wp2_with fail
                refine (HCA.out w4).mono ?_
                rintro e w5 ⟨rfl, hb5⟩
                have HB5 := Lib.hid (HB4.out.trans (hb5.mono HB4.out.size))
                clear hb5
                go_wp2_with fail
                refine (HCB.out w5).mono ?_
                rintro e w6 ⟨rfl, hb6⟩
                have HB6 := Lib.hid (HB5.out.trans (hb6.mono HB5.out.size))
                clear hb6
                go_wp2
                go_ret
                exact ⟨by simp, HB6.out⟩
              · cases cb
                · go_enter Tryd.func10, Tryd.ntmps10
                  go_wp2_with fail
                  refine HM.out.mono ?_
                  rintro e w1 ⟨rfl, hb1⟩
                  have HB1 := Lib.hid (((Below.refl _ w).alloc (Nat.le_refl _) _).trans (hb1.mono (by simp)))
                  clear hb1
                  go_wp2_with fail
                  refine (HRA.out w1).mono ?_
                  rintro e w2 ⟨rfl, hb2⟩
                  have HB2 := Lib.hid (HB1.out.trans (hb2.mono HB1.out.size))
                  clear hb2
                  go_wp2_with fail
                  refine (HRB.out w2).mono ?_
                  rintro e w3 ⟨rfl, hb3⟩
                  have HB3 := Lib.hid (HB2.out.trans (hb3.mono HB2.out.size))
                  clear hb3
                  go_wp2_with fail
                  refine (HOF.out w3).mono ?_
                  rintro e w4 ⟨rfl, hb4⟩
                  have HB4 := Lib.hid (HB3.out.trans (hb4.mono HB3.out.size))
                  clear hb4
                  go_wp2_with fail
                  refine (HCA.out w4).mono ?_
                  rintro e w5 ⟨rfl, hb5⟩
                  have HB5 := Lib.hid (HB4.out.trans (hb5.mono HB4.out.size))
                  clear hb5
                  go_wp2_with fail
                  refine (HCB.out w5).mono ?_
                  rintro e w6 ⟨rfl, hb6⟩
                  have HB6 := Lib.hid (HB5.out.trans (hb6.mono HB5.out.size))
                  clear hb6
                  go_wp2
                  go_ret
                  exact ⟨by simp, HB6.out⟩
                · go_enter Tryd.func10, Tryd.ntmps10
                  go_wp2_with fail
                  refine HM.out.mono ?_
                  rintro e w1 ⟨rfl, hb1⟩
                  have HB1 := Lib.hid (((Below.refl _ w).alloc (Nat.le_refl _) _).trans (hb1.mono (by simp)))
                  clear hb1
                  go_wp2_with fail
                  refine (HRA.out w1).mono ?_
                  rintro e w2 ⟨rfl, hb2⟩
                  have HB2 := Lib.hid (HB1.out.trans (hb2.mono HB1.out.size))
                  clear hb2
                  go_wp2_with fail
                  refine (HRB.out w2).mono ?_
                  rintro e w3 ⟨rfl, hb3⟩
                  have HB3 := Lib.hid (HB2.out.trans (hb3.mono HB2.out.size))
                  clear hb3
                  go_wp2_with fail
                  refine (HOF.out w3).mono ?_
                  rintro e w4 ⟨rfl, hb4⟩
                  have HB4 := Lib.hid (HB3.out.trans (hb4.mono HB3.out.size))
                  clear hb4
                  go_wp2_with fail
                  refine (HCA.out w4).mono ?_
                  rintro e w5 ⟨rfl, hb5⟩
                  have HB5 := Lib.hid (HB4.out.trans (hb5.mono HB4.out.size))
                  clear hb5
                  go_wp2_with fail
                  refine (HCB.out w5).mono ?_
                  rintro e w6 ⟨rfl, hb6⟩
                  have HB6 := Lib.hid (HB5.out.trans (hb6.mono HB5.out.size))
                  clear hb6
                  go_wp2_with fail
                  refine (HCH.out w6 HB6.out).mono ?_
                  rintro e w7 ⟨v, rfl, ho, hg, hb7⟩
                  have HB7 := Lib.hid (HB6.out.trans (hb7.mono HB6.out.size))
                  have HO := Lib.hid ho
                  clear hb7 ho hg
                  go_wp2_with fail
                  refine (HCO.out w7 _ HO.out).mono ?_
                  rintro e w8 ⟨rfl, rfl⟩
                  go_wp2
                  go_ret
                  exact ⟨by simp, HB7.out⟩
            · go_enter Tryd.func10, Tryd.ntmps10
              go_wp2_with fail
              refine HM.out.mono ?_
              rintro e w1 ⟨rfl, hb1⟩
              have HB1 := Lib.hid (((Below.refl _ w).alloc (Nat.le_refl _) _).trans (hb1.mono (by simp)))
              clear hb1
              go_wp2_with fail
              refine (HRA.out w1).mono ?_
              rintro e w2 ⟨rfl, hb2⟩
              have HB2 := Lib.hid (HB1.out.trans (hb2.mono HB1.out.size))
              clear hb2
              go_wp2_with fail
              refine (HRB.out w2).mono ?_
              rintro e w3 ⟨rfl, hb3⟩
              have HB3 := Lib.hid (HB2.out.trans (hb3.mono HB2.out.size))
              clear hb3
              go_wp2_with fail
              refine (HOF.out w3).mono ?_
              rintro e w4 ⟨rfl, hb4⟩
              have HB4 := Lib.hid (HB3.out.trans (hb4.mono HB3.out.size))
              clear hb4
              go_wp2
              go_ret
              exact ⟨by simp, HB4.out⟩
          · go_enter Tryd.func10, Tryd.ntmps10
            go_wp2_with fail
            refine HM.out.mono ?_
            rintro e w1 ⟨rfl, hb1⟩
            have HB1 := Lib.hid (((Below.refl _ w).alloc (Nat.le_refl _) _).trans (hb1.mono (by simp)))
            clear hb1
            go_wp2_with fail
            refine (HRA.out w1).mono ?_
            rintro e w2 ⟨rfl, hb2⟩
            have HB2 := Lib.hid (HB1.out.trans (hb2.mono HB1.out.size))
            clear hb2
            go_wp2_with fail
            refine (HRB.out w2).mono ?_
            rintro e w3 ⟨rfl, hb3⟩
            have HB3 := Lib.hid (HB2.out.trans (hb3.mono HB2.out.size))
            clear hb3
            go_wp2
            go_ret
            exact ⟨by simp, HB3.out⟩
    · go_enter Tryd.func10, Tryd.ntmps10
      go_wp2_with fail
      refine HM.out.mono ?_
      rintro e w1 ⟨rfl, hb1⟩
      have HB1 := Lib.hid (((Below.refl _ w).alloc (Nat.le_refl _) _).trans (hb1.mono (by simp)))
      clear hb1
      go_wp2
      go_ret
      exact ⟨by simp, HB1.out⟩
end Go.Proofs.YtefiliomfiomfadDoor
