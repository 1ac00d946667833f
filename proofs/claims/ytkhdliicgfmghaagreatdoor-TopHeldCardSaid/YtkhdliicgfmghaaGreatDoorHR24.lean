/- Runs of TopHeld between its states, by the kernel, part 24; no conditions. -/
import Derived.Test.YtkhdliicgfmghaaGreatDoorHS1
import Derived.KernelRfl
open Go Go.Ev
namespace KT
theorem kg8 : gcS (nmL hg8) (itL (step P X) [15] g7) = g8 := by kernel_rfl
end KT
