/- Runs of TopHeld between its states, by the kernel, part 7; no conditions. -/
import Derived.Test.YtkhdliicgfmghaaGreatDoorHS1
import Derived.KernelRfl
open Go Go.Ev
namespace KT
theorem ka8 (m : Bool) (u : Nat) : gcS (nmL ha8) (itL (step P X) [15] (a7 m u)) = (a8 m u) := by kernel_rfl
end KT
