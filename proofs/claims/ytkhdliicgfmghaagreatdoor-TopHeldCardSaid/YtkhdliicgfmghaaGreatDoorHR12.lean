/- Runs of TopHeld between its states, by the kernel, part 12; no conditions. -/
import Derived.Test.YtkhdliicgfmghaaGreatDoorHS1
import Derived.KernelRfl
open Go Go.Ev
namespace KT
theorem ka13 (m : Bool) (u : Nat) : gcS (nmL ha13) (itL (step P X) [15] (a12 m u)) = (a13 m u) := by kernel_rfl
end KT
