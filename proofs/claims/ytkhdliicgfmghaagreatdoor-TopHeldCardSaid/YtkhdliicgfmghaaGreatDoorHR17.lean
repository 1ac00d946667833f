/- Runs of TopHeld between its states, by the kernel, part 17; no conditions. -/
import Derived.Test.YtkhdliicgfmghaaGreatDoorHS1
import Derived.KernelRfl
open Go Go.Ev
namespace KT
theorem kg1 : gcS (nmL hg1) (itL (step P X) [15] (m0 true)) = g1 := by kernel_rfl
end KT
