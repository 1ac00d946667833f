/- Runs of TopHeld between its states, by the kernel, part 30; no conditions. -/
import Derived.Test.YtkhdliicgfmghaaGreatDoorHS1
import Derived.KernelRfl
open Go Go.Ev
namespace KT
theorem kg14 : gcS (nmL hg14) (itL (step P X) [15] g13) = g14 := by kernel_rfl
end KT
