/- Runs of TopHeld between its states, by the kernel, part 2; no conditions. -/
import Derived.Test.YtkhdliicgfmghaaGreatDoorHS1
import Derived.KernelRfl
open Go Go.Ev
namespace KT
theorem ka3 (m : Bool) (u : Nat) : gcS (nmL ha3) (itL (step P X) [15] (a2 m u)) = (a3 m u) := by kernel_rfl
theorem kb1 (m : Bool) (u : Nat) : gcS (nmL hb1) (itL (step P X) [9, 7, 6, 5, 0] (a14 m u)) = (b1 m u) := by kernel_rfl
theorem kn1 (m : Bool) (u : Nat) : gcS (nmL ht7) (itL (step P X) [2, 1] (cb m u (.i 3 (18446744073709551616 - 1)))) = (t7 m u 9) := by kernel_rfl
theorem ke4 (m : Bool) (u : Nat) : gcS (nmL he4) (itL (step P X) [13, 11, 10, 9, 7, 6, 5, 4, 1, 0] (t7 m u 4)) = (e4 m u) := by kernel_rfl
end KT
