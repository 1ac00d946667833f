/- desc's Right and Ref; hier's Known. -/
import Derived.Test.YtefiliomfiomfadDoorDesc
namespace Go.Proofs.YtefiliomfiomfadDoor
open Go.RowKit

theorem right32 (s : BA) (hs : s.size ≤ maxLen) (w : World) : Calls Tryd.prog 32 #[.string s] w fun e w' => e = .returned (.bool (rightF s)) ∧ Below w.heap.size w w' := by
  have HC := Lib.hid (bare45 s hs w)
  have hz := (trim_some s).2
  have HN := Lib.hid (fun w => name43 (trimF s) (by omega) w)
  have HP := Lib.hid (fun w => plain46 (trimF s) w)
  unfold rightF
  unfold maxLen at hs
  generalize trimF s = t at *
  obtain ⟨n, hn⟩ : ∃ n : Nat, s.size - t.size = n := ⟨_, rfl⟩
  rw [hn] at HC ⊢
  have hn2 : n ≤ 9223372036854775807 := by omega
  obtain ⟨x, b, hx⟩ : ∃ x b, nameF t = (x, b) := ⟨_, _, rfl⟩
  rw [hx] at HN
  rw [hx]
  generalize plainF t = q at *
  clear hx hz hn
  simp only at HN ⊢
  by_cases h4 : n ≤ 4
  · have d4 : decide ((n : Int) ≤ 4) = true := by simp; omega
    rw [decide_eq_true h4]
    cases b
    · go_enter Tryd.func32, Tryd.ntmps32
      go_wp2_with fail
      refine HC.out.mono ?_
      rintro e w1 ⟨rfl, hb⟩
      have HB := Lib.hid hb
      clear hb
      go_wp2_with fail
      refine (HN.out w1).mono ?_
      rintro e w2 ⟨rfl, hb⟩
      have HB2 := Lib.hid (HB.out.trans (hb.mono HB.out.size))
      clear hb
      go_wp2_with fail
      refine (HP.out w2).mono ?_
      rintro e w3 ⟨rfl, hb⟩
      have HB3 := Lib.hid (HB2.out.trans (hb.mono HB2.out.size))
      clear hb
      go_wp2
      go_ret
      exact ⟨rfl, HB3.out⟩
    · go_enter Tryd.func32, Tryd.ntmps32
      go_wp2_with fail
      refine HC.out.mono ?_
      rintro e w1 ⟨rfl, hb⟩
      have HB := Lib.hid hb
      clear hb
      go_wp2_with fail
      refine (HN.out w1).mono ?_
      rintro e w2 ⟨rfl, hb⟩
      have HB2 := Lib.hid (HB.out.trans (hb.mono HB.out.size))
      clear hb
      go_wp2
      go_ret
      exact ⟨rfl, HB2.out⟩
  · have d4 : decide ((n : Int) ≤ 4) = false := by simp; omega
    have h5 : 4 < n := by omega
    rw [decide_eq_false h4]
    go_enter Tryd.func32, Tryd.ntmps32
    go_wp2_with fail
    refine HC.out.mono ?_
    rintro e w1 ⟨rfl, hb⟩
    have HB := Lib.hid hb
    clear hb
    go_wp2_with fail
    refine (HN.out w1).mono ?_
    rintro e w2 ⟨rfl, hb⟩
    have HB2 := Lib.hid (HB.out.trans (hb.mono HB.out.size))
    clear hb
    go_wp2
    go_ret
    exact ⟨rfl, HB2.out⟩
theorem ref28 (s : BA) (hs : s.size ≤ maxLen) (w : World) : Calls Tryd.prog 28 #[.string s] w fun e w' => e = .returned (.bool (refF s)) ∧ Below w.heap.size w w' := by
  have HR := Lib.hid (right32 s hs w)
  have h1 := eqN s
  have h2 := eqI s
  have h3 := eqB s
  unfold refF
  have e2 : decide (s ≠ isI) = !decide (s = isI) := by simp
  have e3 : decide (s ≠ isB) = !decide (s = isB) := by simp
  rw [e2, e3]
  clear e2 e3
  generalize decide (s = isN) = b1 at *
  generalize decide (s = isI) = b2 at *
  generalize decide (s = isB) = b3 at *
  generalize rightF s = r at *
  cases b1
  · cases r
    · go_enter Tryd.func28, Tryd.ntmps28
      go_wp2_with fail
      refine HR.out.mono ?_
      rintro e w1 ⟨rfl, hb⟩
      have HB := Lib.hid hb
      clear hb
      go_wp2
      go_ret
      exact ⟨rfl, HB.out⟩
    · cases b2 <;> cases b3
      all_goals (
        go_enter Tryd.func28, Tryd.ntmps28
        go_wp2_with fail
        refine HR.out.mono ?_
        rintro e w1 ⟨rfl, hb⟩
        have HB := Lib.hid hb
        clear hb
        go_wp2
        go_ret
        exact ⟨rfl, HB.out⟩)
  · go_enter Tryd.func28, Tryd.ntmps28
    go_wp2
    go_ret
    exact ⟨rfl, Below.refl _ _⟩
theorem HP.below {w w' : World} {F : Nat → Prop} {p : Value} {H : List (BA × BA)} {N : Nat} (h : HP w F p H N) (hb : Below w.heap.size w w') : HP w' F p H N := h.chg (Chg.of_below (F := fun _ => False) hb) (fun _ _ e => e)
theorem known_nil (d : BA) (w : World) : Calls Tryd.prog 11 #[.pointer none, .string d] w fun e w' => e = .returned (.bool false) ∧ w' = w := by
  go_enter Tryd.func11, Tryd.ntmps11
  go_wp2
  go_ret
  exact ⟨rfl, rfl⟩
set_option maxHeartbeats 1000000 in
theorem known11 {w : World} {F : Nat → Prop} {p : Value} {H : List (BA × BA)} {N : Nat} (h : HP w F p H N) (d : BA) (hd : d.size ≤ maxLen) :
    Calls Tryd.prog 11 #[p, .string d] w fun e w' => e = .returned (.bool (knownF H d)) ∧ Below w.heap.size w w' := by
  have HR := Lib.hid (right32 d hd w)
  have HT := Lib.hid (fun w => trim33 d w)
  have hz := (trim_some d).2
  have HC := Lib.hid (fun w => class30 (trimF d) (by omega) w)
  have HH : Hid (∀ w', Below w.heap.size w w' → (classF (trimF d)).2 = true → Calls Tryd.prog 19 #[p, .string (classF (trimF d)).1] w' fun e w'' => e = .returned (.bool (look H (classF (trimF d)).1).isSome) ∧ w'' = w') := Lib.hid fun w' hb ht => by
    have e : classF (trimF d) = ((classF (trimF d)).1, true) := by rw [← ht]
    exact has19 (h.below hb) _ (by have := (classF_spec (by omega) e).2; omega)
  obtain ⟨hb, rfl⟩ := h.p
  unfold knownF
  generalize rightF d = r at *
  generalize trimF d = t at *
  obtain ⟨x, c, hx⟩ : ∃ x c, classF t = (x, c) := ⟨_, _, rfl⟩
  rw [hx] at HC HH ⊢
  simp only at HC HH ⊢
  generalize (look H x).isSome = y at *
  clear hx hz hd h
  cases r
  · go_enter Tryd.func11, Tryd.ntmps11
    go_wp2_with fail
    refine HR.out.mono ?_
    rintro e w1 ⟨rfl, hb⟩
    have HB := Lib.hid hb
    clear hb
    go_wp2
    go_ret
    exact ⟨rfl, HB.out⟩
  · cases c
    · go_enter Tryd.func11, Tryd.ntmps11
      go_wp2_with fail
      refine HR.out.mono ?_
      rintro e w1 ⟨rfl, hb⟩
      have HB := Lib.hid hb
      clear hb
      go_wp2_with fail
      refine (HT.out w1).mono ?_
      rintro e w2 ⟨rfl, hb⟩
      have HB2 := Lib.hid (HB.out.trans (hb.mono HB.out.size))
      clear hb
      go_wp2_with fail
      refine (HC.out w2).mono ?_
      rintro e w3 ⟨rfl, hb⟩
      have HB3 := Lib.hid (HB2.out.trans (hb.mono HB2.out.size))
      clear hb
      go_wp2
      go_ret
      exact ⟨rfl, HB3.out⟩
    · go_enter Tryd.func11, Tryd.ntmps11
      go_wp2_with fail
      refine HR.out.mono ?_
      rintro e w1 ⟨rfl, hb⟩
      have HB := Lib.hid hb
      clear hb
      go_wp2_with fail
      refine (HT.out w1).mono ?_
      rintro e w2 ⟨rfl, hb⟩
      have HB2 := Lib.hid (HB.out.trans (hb.mono HB.out.size))
      clear hb
      go_wp2_with fail
      refine (HC.out w2).mono ?_
      rintro e w3 ⟨rfl, hb⟩
      have HB3 := Lib.hid (HB2.out.trans (hb.mono HB2.out.size))
      clear hb
      go_wp2_with fail
      refine (HH.out w3 HB3.out trivial).mono ?_
      rintro e w4 ⟨rfl, rfl⟩
      go_wp2
      go_ret
      exact ⟨rfl, HB3.out⟩
end Go.Proofs.YtefiliomfiomfadDoor
