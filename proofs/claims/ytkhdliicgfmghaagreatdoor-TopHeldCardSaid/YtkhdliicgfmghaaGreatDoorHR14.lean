/- Runs of TopHeld between its states, by the kernel, part 14; no conditions. -/
import Derived.Test.YtkhdliicgfmghaaGreatDoorHS1
import Derived.KernelRfl
open Go Go.Ev
namespace KT
theorem kca (m : Bool) (u : Nat) : gcS (nmL hca) (itL (step P X) [2, 1] (b1 m u)) = (ca m u) := by kernel_rfl
theorem ke8 (m : Bool) (u : Nat) : gcS (nmL he8) (itL (step P X) [13, 12, 10, 9, 7, 6, 4, 3, 1, 0] (t7 m u 8)) = (e8 m u) := by kernel_rfl
theorem kgz : donT (itL (step P X) [14, 13, 12, 11, 9, 8, 7, 5, 2, 0] g17) = true := by kernel_rfl
end KT
