/- Runs of TopHeld between its states, by the kernel, part 19; no conditions. -/
import Derived.Test.YtkhdliicgfmghaaGreatDoorHS1
import Derived.KernelRfl
open Go Go.Ev
namespace KT
theorem kg3 : gcS (nmL hg3) (itL (step P X) [15] g2) = g3 := by kernel_rfl
end KT
