/- Runs of TopHeld between its states, by the kernel, part 9; no conditions. -/
import Derived.Test.YtkhdliicgfmghaaGreatDoorHS1
import Derived.KernelRfl
open Go Go.Ev
namespace KT
theorem ka10 (m : Bool) (u : Nat) : gcS (nmL ha10) (itL (step P X) [15] (a9 m u)) = (a10 m u) := by kernel_rfl
end KT
