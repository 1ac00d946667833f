/- Runs of TopHeld between its states, by the kernel, part 32; no conditions. -/
import Derived.Test.YtkhdliicgfmghaaGreatDoorHS1
import Derived.KernelRfl
open Go Go.Ev
namespace KT
theorem kg16 : gcS (nmL hg16) (itL (step P X) [15] g15) = g16 := by kernel_rfl
end KT
