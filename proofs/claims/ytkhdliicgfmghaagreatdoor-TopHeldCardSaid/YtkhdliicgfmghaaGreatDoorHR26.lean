/- Runs of TopHeld between its states, by the kernel, part 26; no conditions. -/
import Derived.Test.YtkhdliicgfmghaaGreatDoorHS1
import Derived.KernelRfl
open Go Go.Ev
namespace KT
theorem kg10 : gcS (nmL hg10) (itL (step P X) [15] g9) = g10 := by kernel_rfl
end KT
