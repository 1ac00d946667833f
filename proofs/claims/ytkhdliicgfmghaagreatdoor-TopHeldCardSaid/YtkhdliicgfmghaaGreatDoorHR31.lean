/- Runs of TopHeld between its states, by the kernel, part 31; no conditions. -/
import Derived.Test.YtkhdliicgfmghaaGreatDoorHS1
import Derived.KernelRfl
open Go Go.Ev
namespace KT
theorem kg15 : gcS (nmL hg15) (itL (step P X) [15] g14) = g15 := by kernel_rfl
end KT
