/- Runs of TopHeld between its states, by the kernel, part 10; no conditions. -/
import Derived.Test.YtkhdliicgfmghaaGreatDoorHS1
import Derived.KernelRfl
open Go Go.Ev
namespace KT
theorem ka11 (m : Bool) (u : Nat) : gcS (nmL ha11) (itL (step P X) [15] (a10 m u)) = (a11 m u) := by kernel_rfl
end KT
