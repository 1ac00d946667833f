/- Runs of TopHeld between its states, by the kernel, part 1; no conditions. -/
import Derived.Test.YtkhdliicgfmghaaGreatDoorHS1
import Derived.KernelRfl
open Go Go.Ev
namespace KT
theorem ka2 (m : Bool) (u : Nat) : gcS (nmL ha2) (itL (step P X) [15] (a1 m u)) = (a2 m u) := by kernel_rfl
theorem kn2 (m : Bool) (u : Nat) : gcS (nmL ht7) (itL (step P X) [2, 1] (cb m u (.i 3 (18446744073709551616 - 2)))) = (t7 m u 8) := by kernel_rfl
theorem kn3 (m : Bool) (u : Nat) : gcS (nmL ht7) (itL (step P X) [2, 1] (cb m u (.i 3 (18446744073709551616 - 3)))) = (t7 m u 7) := by kernel_rfl
theorem ke5 (m : Bool) (u : Nat) : gcS (nmL he5) (itL (step P X) [13, 12, 7, 6, 5, 3, 2, 0] (t7 m u 5)) = (e5 m u) := by kernel_rfl
end KT
