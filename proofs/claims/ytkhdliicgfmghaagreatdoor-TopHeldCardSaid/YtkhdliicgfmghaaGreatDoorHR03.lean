/- Runs of TopHeld between its states, by the kernel, part 3; no conditions. -/
import Derived.Test.YtkhdliicgfmghaaGreatDoorHS1
import Derived.KernelRfl
open Go Go.Ev
namespace KT
theorem ka4 (m : Bool) (u : Nat) : gcS (nmL ha4) (itL (step P X) [15] (a3 m u)) = (a4 m u) := by kernel_rfl
theorem kn4 (m : Bool) (u : Nat) : gcS (nmL ht7) (itL (step P X) [2, 1] (cb m u (.i 3 (18446744073709551616 - 4)))) = (t7 m u 6) := by kernel_rfl
theorem kn5 (m : Bool) (u : Nat) : gcS (nmL ht7) (itL (step P X) [2, 1] (cb m u (.i 3 (18446744073709551616 - 5)))) = (t7 m u 5) := by kernel_rfl
theorem kn6 (m : Bool) (u : Nat) : gcS (nmL ht7) (itL (step P X) [2, 1] (cb m u (.i 3 (18446744073709551616 - 6)))) = (t7 m u 4) := by kernel_rfl
theorem kn7 (m : Bool) (u : Nat) : gcS (nmL ht7) (itL (step P X) [2, 1] (cb m u (.i 3 (18446744073709551616 - 7)))) = (t7 m u 3) := by kernel_rfl
theorem kn8 (m : Bool) (u : Nat) : gcS (nmL ht7) (itL (step P X) [2, 1] (cb m u (.i 3 (18446744073709551616 - 8)))) = (t7 m u 2) := by kernel_rfl
theorem ke3 (m : Bool) (u : Nat) : gcS (nmL he3) (itL (step P X) [13, 11, 10, 7, 6, 5, 4, 3, 0] (t7 m u 3)) = (e3 m u) := by kernel_rfl
end KT
