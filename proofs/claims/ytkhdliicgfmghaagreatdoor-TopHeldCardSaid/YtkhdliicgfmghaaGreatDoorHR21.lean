/- Runs of TopHeld between its states, by the kernel, part 21; no conditions. -/
import Derived.Test.YtkhdliicgfmghaaGreatDoorHS1
import Derived.KernelRfl
open Go Go.Ev
namespace KT
theorem kg5 : gcS (nmL hg5) (itL (step P X) [15] g4) = g5 := by kernel_rfl
end KT
