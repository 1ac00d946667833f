/- Runs of TopHeld between its states, by the kernel, part 18; no conditions. -/
import Derived.Test.YtkhdliicgfmghaaGreatDoorHS1
import Derived.KernelRfl
open Go Go.Ev
namespace KT
theorem kg2 : gcS (nmL hg2) (itL (step P X) [15] g1) = g2 := by kernel_rfl
end KT
