/- Runs of TopHeld between its states, by the kernel, part 11; no conditions. -/
import Derived.Test.YtkhdliicgfmghaaGreatDoorHS1
import Derived.KernelRfl
open Go Go.Ev
namespace KT
theorem ka12 (m : Bool) (u : Nat) : gcS (nmL ha12) (itL (step P X) [15] (a11 m u)) = (a12 m u) := by kernel_rfl
end KT
