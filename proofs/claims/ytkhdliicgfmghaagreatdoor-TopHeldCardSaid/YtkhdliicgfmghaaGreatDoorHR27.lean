/- Runs of TopHeld between its states, by the kernel, part 27; no conditions. -/
import Derived.Test.YtkhdliicgfmghaaGreatDoorHS1
import Derived.KernelRfl
open Go Go.Ev
namespace KT
theorem kg11 : gcS (nmL hg11) (itL (step P X) [15] g10) = g11 := by kernel_rfl
end KT
