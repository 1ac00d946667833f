/- Runs of TopHeld between its states, by the kernel, part 13; no conditions. -/
import Derived.Test.YtkhdliicgfmghaaGreatDoorHS1
import Derived.KernelRfl
open Go Go.Ev
namespace KT
theorem ka14 (m : Bool) (u : Nat) : gcS (nmL ha14) (itL (step P X) [15] (a13 m u)) = (a14 m u) := by kernel_rfl
end KT
