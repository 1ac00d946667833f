/- Runs of TopHeld between its states, by the kernel, part 22; no conditions. -/
import Derived.Test.YtkhdliicgfmghaaGreatDoorHS1
import Derived.KernelRfl
open Go Go.Ev
namespace KT
theorem kg6 : gcS (nmL hg6) (itL (step P X) [15] g5) = g6 := by kernel_rfl
end KT
