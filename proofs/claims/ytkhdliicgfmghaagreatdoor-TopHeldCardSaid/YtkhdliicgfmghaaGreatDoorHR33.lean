/- Runs of TopHeld between its states, by the kernel, part 33; no conditions. -/
import Derived.Test.YtkhdliicgfmghaaGreatDoorHS1
import Derived.KernelRfl
open Go Go.Ev
namespace KT
theorem kg17 : gcS (nmL hg17) (itL (step P X) [15] g16) = g17 := by kernel_rfl
end KT
