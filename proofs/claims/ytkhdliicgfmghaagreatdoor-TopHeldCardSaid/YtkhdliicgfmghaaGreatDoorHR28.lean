/- Runs of TopHeld between its states, by the kernel, part 28; no conditions. -/
import Derived.Test.YtkhdliicgfmghaaGreatDoorHS1
import Derived.KernelRfl
open Go Go.Ev
namespace KT
theorem kg12 : gcS (nmL hg12) (itL (step P X) [15] g11) = g12 := by kernel_rfl
end KT
