/- Runs of TopHeld between its states, by the kernel, part 23; no conditions. -/
import Derived.Test.YtkhdliicgfmghaaGreatDoorHS1
import Derived.KernelRfl
open Go Go.Ev
namespace KT
theorem kg7 : gcS (nmL hg7) (itL (step P X) [15] g6) = g7 := by kernel_rfl
end KT
