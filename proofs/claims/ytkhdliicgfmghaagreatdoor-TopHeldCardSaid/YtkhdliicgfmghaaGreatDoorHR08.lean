/- Runs of TopHeld between its states, by the kernel, part 8; no conditions. -/
import Derived.Test.YtkhdliicgfmghaaGreatDoorHS1
import Derived.KernelRfl
open Go Go.Ev
namespace KT
theorem ka9 (m : Bool) (u : Nat) : gcS (nmL ha9) (itL (step P X) [15] (a8 m u)) = (a9 m u) := by kernel_rfl
end KT
