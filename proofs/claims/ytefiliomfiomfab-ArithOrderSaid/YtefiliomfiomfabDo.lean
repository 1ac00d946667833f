/- The functions of arith and of its reference that compute with two numbers: what each call answers. -/
import Derived.Test.YtefiliomfiomfabRows
import Derived.WalkKit
import Derived.WalkSpells
import Derived.WalkLawsBesides
namespace Go.Proofs.Ytefiliomfiomfab
open Go.RowKit

def tr (b : Bool) : Int := if b then 1 else 0
theorem truth17 (b : Bool) (w : World) : Calls Try.prog 17 #[.bool b] w fun e w' => e = .returned (.int .i64 (tr b)) ∧ w = w' := by
  cases b
  all_goals
    go_enter Try.func17, Try.ntmps17
    go_wp2
    go_ret
    exact ⟨rfl, rfl⟩
theorem truth19 (b : Bool) (w : World) : Calls Try.prog 19 #[.bool b] w fun e w' => e = .returned (.int .i64 (tr b)) ∧ w = w' := by
  cases b
  all_goals
    go_enter Try.func19, Try.ntmps19
    go_wp2
    go_ret
    exact ⟨rfl, rfl⟩

/-- What an instruction makes of two numbers: the value and the error. -/
def doF (op a b : Int) : Int × Int :=
  if op = 10 then (wrap64 (a + b), 0) else if op = 11 then (wrap64 (a - b), 0) else if op = 12 then (wrap64 (a * b), 0)
  else if op = 15 then (wrap64 (-a), 0) else if op = 17 then (tr (decide (a < b)), 0) else if op = 18 then (tr (decide (a ≤ b)), 0)
  else if op = 19 ∨ op = 20 ∨ op = 21 then (tr (a == b), 0) else if op = 16 then (tr (a == 0), 0)
  else if op = 13 then (if b = 0 then (0, 28) else (wrap64 (a.tdiv b), 0))
  else if op = 14 then (if b = 0 then (0, 28) else (a.tmod b, 0)) else (0, 12)

theorem wrap64_emod (x : Int) : wrap64 (x % 18446744073709551616) = wrap64 x := by unfold wrap64; omega
theorem mul_both (a b : Int) : wrap64 (IntKind.u64.wrap (IntKind.u64.wrap a * IntKind.u64.wrap b)) = wrap64 (a * b) := by
  rw [IntKind.wrap_u64, IntKind.wrap_u64, IntKind.wrap_u64, wrap64_emod, ← wrap64_emod, ← Int.mul_emod, wrap64_emod]
set_option maxHeartbeats 4000000 in
theorem do7 (op a b : Int) (w : World) : Calls Try.prog 7 #[.int .i64 op, .int .i64 a, .int .i64 b] w fun e w' =>
    e = .returned (.tuple #[.int .i64 (doF op a b).1, .int .i64 (doF op a b).2]) ∧ w = w' := by
  by_cases h10 : op = 10
  · subst h10
    go_enter Try.func7, Try.ntmps7
    go_wp2
    go_ret2
    exact ⟨by simp [doF], rfl⟩
  by_cases h11 : op = 11
  · subst h11
    go_enter Try.func7, Try.ntmps7
    go_wp2
    go_ret2
    exact ⟨by simp [doF], rfl⟩
  by_cases h12 : op = 12
  · subst h12
    go_enter Try.func7, Try.ntmps7
    go_wp2
    go_ret2
    exact ⟨by simp [doF], rfl⟩
  by_cases h15 : op = 15
  · subst h15
    go_enter Try.func7, Try.ntmps7
    go_wp2
    go_ret2
    exact ⟨by simp [doF], rfl⟩
  by_cases h17 : op = 17
  · subst h17
    go_enter Try.func7, Try.ntmps7
    go_wp2_with (go_at_call 17; refine (truth17 _ _).mono ?_; rintro e w' ⟨rfl, rfl⟩)
    go_ret2
    exact ⟨by simp [doF], rfl⟩
  by_cases h18 : op = 18
  · subst h18
    go_enter Try.func7, Try.ntmps7
    go_wp2_with (go_at_call 17; refine (truth17 _ _).mono ?_; rintro e w' ⟨rfl, rfl⟩)
    go_ret2
    exact ⟨by simp [doF], rfl⟩
  by_cases h19 : op = 19
  · subst h19
    go_enter Try.func7, Try.ntmps7
    go_wp2_with (go_at_call 17; refine (truth17 _ _).mono ?_; rintro e w' ⟨rfl, rfl⟩)
    go_ret2
    exact ⟨by simp [doF], rfl⟩
  by_cases h20 : op = 20
  · subst h20
    go_enter Try.func7, Try.ntmps7
    go_wp2_with (go_at_call 17; refine (truth17 _ _).mono ?_; rintro e w' ⟨rfl, rfl⟩)
    go_ret2
    exact ⟨by simp [doF], rfl⟩
  by_cases h21 : op = 21
  · subst h21
    go_enter Try.func7, Try.ntmps7
    go_wp2_with (go_at_call 17; refine (truth17 _ _).mono ?_; rintro e w' ⟨rfl, rfl⟩)
    go_ret2
    exact ⟨by simp [doF], rfl⟩
  by_cases h16 : op = 16
  · subst h16
    go_enter Try.func7, Try.ntmps7
    go_wp2_with (go_at_call 17; refine (truth17 _ _).mono ?_; rintro e w' ⟨rfl, rfl⟩)
    go_ret2
    exact ⟨by simp [doF], rfl⟩
  by_cases h13 : op = 13
  · subst h13
    by_cases hb : b = 0
    · subst hb
      go_enter Try.func7, Try.ntmps7
      go_wp2
      go_ret2
      exact ⟨by simp [doF], rfl⟩
    · have hb1 : (b == 0) = false := by simpa using hb
      go_enter Try.func7, Try.ntmps7
      go_wp2
      go_ret2
      exact ⟨by simp [doF, hb], rfl⟩
  by_cases h14 : op = 14
  · subst h14
    by_cases hb : b = 0
    · subst hb
      go_enter Try.func7, Try.ntmps7
      go_wp2
      go_ret2
      exact ⟨by simp [doF], rfl⟩
    · have hb1 : (b == 0) = false := by simpa using hb
      go_enter Try.func7, Try.ntmps7
      go_wp2
      go_ret2
      exact ⟨by simp [doF, hb], rfl⟩
  have g10 : (op == 10) = false := by simpa using h10
  have g11 : (op == 11) = false := by simpa using h11
  have g12 : (op == 12) = false := by simpa using h12
  have g15 : (op == 15) = false := by simpa using h15
  have g17 : (op == 17) = false := by simpa using h17
  have g18 : (op == 18) = false := by simpa using h18
  have g19 : (op == 19) = false := by simpa using h19
  have g20 : (op == 20) = false := by simpa using h20
  have g21 : (op == 21) = false := by simpa using h21
  have g16 : (op == 16) = false := by simpa using h16
  have g13 : (op == 13) = false := by simpa using h13
  have g14 : (op == 14) = false := by simpa using h14
  go_enter Try.func7, Try.ntmps7
  go_wp2
  go_ret2
  exact ⟨by simp [doF, h10, h11, h12, h15, h17, h18, h19, h20, h21, h16, h13, h14], rfl⟩
set_option maxHeartbeats 1000000 in
theorem divide18_13 (a b : Int) (w : World) : Calls Try.prog 18 #[.int .i64 13, .int .i64 a, .int .i64 b] w fun e w' =>
    e = .returned (.tuple #[.int .i64 (doF 13 a b).1, .int .i64 (doF 13 a b).2]) ∧ w = w' := by
  by_cases hb : b = 0
  · subst hb
    go_enter Try.func18, Try.ntmps18
    go_wp2
    go_ret2
    exact ⟨by simp [doF], rfl⟩
  have hb1 : (b == 0) = false := by simpa using hb
  by_cases hc : b = -1
  · subst hc
    go_enter Try.func18, Try.ntmps18
    go_wp2
    go_ret2
    exact ⟨by simp [doF], rfl⟩
  have hc1 : (b == -1) = false := by simpa using hc
  go_enter Try.func18, Try.ntmps18
  go_wp2
  go_ret2
  exact ⟨by simp [doF, hb], rfl⟩
set_option maxHeartbeats 1000000 in
theorem divide18_14 (a b : Int) (w : World) : Calls Try.prog 18 #[.int .i64 14, .int .i64 a, .int .i64 b] w fun e w' =>
    e = .returned (.tuple #[.int .i64 (doF 14 a b).1, .int .i64 (doF 14 a b).2]) ∧ w = w' := by
  by_cases hb : b = 0
  · subst hb
    go_enter Try.func18, Try.ntmps18
    go_wp2
    go_ret2
    exact ⟨by simp [doF], rfl⟩
  have hb1 : (b == 0) = false := by simpa using hb
  by_cases hc : b = -1
  · subst hc
    go_enter Try.func18, Try.ntmps18
    go_wp2
    go_ret2
    exact ⟨by simp [doF], rfl⟩
  have hc1 : (b == -1) = false := by simpa using hc
  go_enter Try.func18, Try.ntmps18
  go_wp2
  go_ret2
  exact ⟨by simp [doF, hb], rfl⟩
set_option maxHeartbeats 4000000 in
theorem do8 (op a b : Int) (w : World) : Calls Try.prog 8 #[.int .i64 op, .int .i64 a, .int .i64 b] w fun e w' =>
    e = .returned (.tuple #[.int .i64 (doF op a b).1, .int .i64 (doF op a b).2]) ∧ w = w' := by
  by_cases h10 : op = 10
  · subst h10
    go_enter Try.func8, Try.ntmps8
    go_wp2
    go_ret2
    exact ⟨by simp [doF], rfl⟩
  by_cases h11 : op = 11
  · subst h11
    go_enter Try.func8, Try.ntmps8
    go_wp2
    go_ret2
    exact ⟨by simp [doF], rfl⟩
  by_cases h12 : op = 12
  · subst h12
    go_enter Try.func8, Try.ntmps8
    go_wp2
    go_ret2
    exact ⟨by simp [doF, mul_both], rfl⟩
  by_cases h15 : op = 15
  · subst h15
    go_enter Try.func8, Try.ntmps8
    go_wp2
    go_ret2
    exact ⟨by simp [doF], rfl⟩
  by_cases h17 : op = 17
  · subst h17
    go_enter Try.func8, Try.ntmps8
    go_wp2_with (go_at_call 19; refine (truth19 _ _).mono ?_; rintro e w' ⟨rfl, rfl⟩)
    go_ret2
    exact ⟨by simp [doF], rfl⟩
  by_cases h18 : op = 18
  · subst h18
    go_enter Try.func8, Try.ntmps8
    go_wp2_with (go_at_call 19; refine (truth19 _ _).mono ?_; rintro e w' ⟨rfl, rfl⟩)
    go_ret2
    exact ⟨by simp [doF], rfl⟩
  by_cases h19 : op = 19
  · subst h19
    go_enter Try.func8, Try.ntmps8
    go_wp2_with (go_at_call 19; refine (truth19 _ _).mono ?_; rintro e w' ⟨rfl, rfl⟩)
    go_ret2
    exact ⟨by simp [doF], rfl⟩
  by_cases h20 : op = 20
  · subst h20
    go_enter Try.func8, Try.ntmps8
    go_wp2_with (go_at_call 19; refine (truth19 _ _).mono ?_; rintro e w' ⟨rfl, rfl⟩)
    go_ret2
    exact ⟨by simp [doF], rfl⟩
  by_cases h21 : op = 21
  · subst h21
    go_enter Try.func8, Try.ntmps8
    go_wp2_with (go_at_call 19; refine (truth19 _ _).mono ?_; rintro e w' ⟨rfl, rfl⟩)
    go_ret2
    exact ⟨by simp [doF], rfl⟩
  by_cases h16 : op = 16
  · subst h16
    go_enter Try.func8, Try.ntmps8
    go_wp2_with (go_at_call 19; refine (truth19 _ _).mono ?_; rintro e w' ⟨rfl, rfl⟩)
    go_ret2
    exact ⟨by simp [doF], rfl⟩
  by_cases h13 : op = 13
  · subst h13
    go_enter Try.func8, Try.ntmps8
    go_wp2_with (go_at_call 18; refine (divide18_13 _ _ _).mono ?_; rintro e w' ⟨rfl, rfl⟩)
    go_ret2
    exact ⟨rfl, rfl⟩
  by_cases h14 : op = 14
  · subst h14
    go_enter Try.func8, Try.ntmps8
    go_wp2_with (go_at_call 18; refine (divide18_14 _ _ _).mono ?_; rintro e w' ⟨rfl, rfl⟩)
    go_ret2
    exact ⟨rfl, rfl⟩
  have g10 : (op == 10) = false := by simpa using h10
  have g11 : (op == 11) = false := by simpa using h11
  have g12 : (op == 12) = false := by simpa using h12
  have g15 : (op == 15) = false := by simpa using h15
  have g17 : (op == 17) = false := by simpa using h17
  have g18 : (op == 18) = false := by simpa using h18
  have g19 : (op == 19) = false := by simpa using h19
  have g20 : (op == 20) = false := by simpa using h20
  have g21 : (op == 21) = false := by simpa using h21
  have g16 : (op == 16) = false := by simpa using h16
  have g13 : (op == 13) = false := by simpa using h13
  have g14 : (op == 14) = false := by simpa using h14
  go_enter Try.func8, Try.ntmps8
  go_wp2
  go_ret2
  exact ⟨by simp [doF, h10, h11, h12, h15, h17, h18, h19, h20, h21, h16, h13, h14], rfl⟩

end Go.Proofs.Ytefiliomfiomfab
