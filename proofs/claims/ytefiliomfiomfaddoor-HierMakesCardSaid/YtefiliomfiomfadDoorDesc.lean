/- desc's functions. -/
import Derived.Test.YtefiliomfiomfadDoorDescP
namespace Go.Proofs.YtefiliomfiomfadDoor
open Go.RowKit PHierMakes Go.Proofs.YtefiliomfiomfadDoorW.PrintWords

theorem eqN (c : BA) : (c.toList == [78]) = decide (c = isN) := by rw [← (show isN.toList = [78] from ByteArray.toList_mk [78]), beqS]
theorem eqI (c : BA) : (c.toList == [73]) = decide (c = isI) := by rw [← (show isI.toList = [73] from ByteArray.toList_mk [73]), beqS]
theorem eqB (c : BA) : (c.toList == [66]) = decide (c = isB) := by rw [← (show isB.toList = [66] from ByteArray.toList_mk [66]), beqS]
theorem eqSt (c : BA) : (c.toList == [83]) = decide (c = isS) := by rw [← (show isS.toList = [83] from ByteArray.toList_mk [83]), beqS]
set_option maxRecDepth 100000 in
set_option maxHeartbeats 1000000 in
theorem trim33 (s : BA) (w : World) : Calls Tryd.prog 33 #[.string s, .string ⟨#[91]⟩] w fun e w' => e = .returned (.string (trimF s)) ∧ Below w.heap.size w w' := by
  obtain ⟨hf, hz⟩ := trim_some s
  by_cases h0 : s.size = 0
  · have e0 : s = ⟨#[]⟩ := ba_ext (List.eq_nil_of_length_eq_zero (by rw [Array.length_toList]; exact h0))
    subst e0
    have ht : trimF ⟨#[]⟩ = ⟨#[]⟩ := by decide +kernel
    rw [ht]
    clear hf hz ht h0
    go_enter Tryd.func33, Tryd.ntmps33
    go_wp2
    go_ret
    exact ⟨rfl, Below.refl _ _⟩
  · have b0 : s.toList.isEmpty = false := by
      rw [ByteArray.toList_eq]
      have : s.data.toList.length = s.size := by rw [Array.length_toList]; rfl
      cases h : s.data.toList with
      | nil => rw [h] at this; simp at this; omega
      | cons x r => rfl
    have HF := Lib.hid hf
    clear hf hz
    have h91 : ((({ data := #[91] } : ByteArray)[0]'(by decide)).toNat : Int) = 91 := rfl
    go_enter Tryd.func33, Tryd.ntmps33
    go_wp2_with fail
    refine (strings_trimLeftByte.calls _ _ _ _ _ HF.out).mono ?_
    rintro e w1 ⟨rfl, hd⟩
    have HB := Lib.hid hd.below
    clear hd
    go_wp2
    go_ret
    exact ⟨rfl, HB.out⟩
theorem name43 (s : BA) (hs : s.size ≤ maxLen) (w : World) : Calls Tryd.prog 43 #[.string s] w fun e w' => e = .returned (.tuple #[.string (nameF s).1, .bool (nameF s).2]) ∧ Below w.heap.size w w' := by
  refine (desc_name.calls 30 s _ _ w (nameF_spec s hs).1).mono ?_
  rintro e w' ⟨rfl, hd⟩
  exact ⟨rfl, hd.below⟩
theorem class30 (s : BA) (hs : s.size ≤ maxLen) (w : World) : Calls Tryd.prog 30 #[.string s] w fun e w' => e = .returned (.tuple #[.string (classF s).1, .bool (classF s).2]) ∧ Below w.heap.size w w' := by
  have HC := Lib.hid (name43 s hs w)
  unfold classF
  obtain ⟨⟨x, b⟩, hx⟩ : ∃ r, nameF s = r := ⟨_, rfl⟩
  rw [hx] at HC ⊢
  clear hx hs
  cases b
  all_goals (
    go_enter Tryd.func30, Tryd.ntmps30
    go_wp2_with fail
    refine HC.out.mono ?_
    rintro e w1 ⟨rfl, hb⟩
    have HB := Lib.hid hb
    clear hb
    go_wp2
    go_ret2
    exact ⟨rfl, HB.out⟩)
theorem plain46 (s : BA) (w : World) : Calls Tryd.prog 46 #[.string s] w fun e w' => e = .returned (.bool (plainF s)) ∧ Below w.heap.size w w' := by
  have h1 := eqI s
  have h2 := eqB s
  have h3 := eqSt s
  unfold plainF
  generalize decide (s = isI) = b1 at *
  generalize decide (s = isB) = b2 at *
  generalize decide (s = isS) = b3 at *
  cases b1 <;> cases b2 <;> cases b3
  all_goals (
    go_enter Tryd.func46, Tryd.ntmps46
    go_wp2
    go_ret
    exact ⟨rfl, Below.refl _ _⟩)
theorem of29 (w : World) : Calls Tryd.prog 29 #[.string ⟨#[79, 98, 106, 101, 99, 116]⟩] w fun e w' => e = .returned (.string ofObj) ∧ Below w.heap.size w w' := by
  go_enter Tryd.func29, Tryd.ntmps29
  go_wp2
  go_ret
  exact ⟨rfl, Below.refl _ _⟩
theorem bare45 (s : BA) (hs : s.size ≤ maxLen) (w : World) : Calls Tryd.prog 45 #[.string s] w fun e w' => e = .returned (.tuple #[.string (trimF s), .int .i64 ((s.size - (trimF s).size : Nat) : Int)]) ∧ Below w.heap.size w w' := by
  have HC := Lib.hid (trim33 s w)
  have hz := (trim_some s).2
  unfold maxLen at hs
  have e1 : ((s.size - (trimF s).size : Nat) : Int) = (s.size : Int) - ((trimF s).size : Int) := by omega
  rw [e1]
  have z2 : 0 ≤ (s.size : Int) - ((trimF s).size : Int) := by omega
  clear e1
  generalize trimF s = t at *
  go_enter Tryd.func45, Tryd.ntmps45
  go_wp2_with fail
  refine HC.out.mono ?_
  rintro e w1 ⟨rfl, hb⟩
  have HB := Lib.hid hb
  clear hb
  go_wp2
  go_ret2
  exact ⟨rfl, HB.out⟩
end Go.Proofs.YtefiliomfiomfadDoor
