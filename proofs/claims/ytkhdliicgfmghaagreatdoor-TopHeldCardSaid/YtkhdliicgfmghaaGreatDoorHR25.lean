/- Runs of TopHeld between its states, by the kernel, part 25; no conditions. -/
import Derived.Test.YtkhdliicgfmghaaGreatDoorHS1
import Derived.KernelRfl
open Go Go.Ev
namespace KT
theorem kg9 : gcS (nmL hg9) (itL (step P X) [15] g8) = g9 := by kernel_rfl
end KT
