/- Runs of TopHeld between its states, by the kernel, part 20; no conditions. -/
import Derived.Test.YtkhdliicgfmghaaGreatDoorHS1
import Derived.KernelRfl
open Go Go.Ev
namespace KT
theorem kg4 : gcS (nmL hg4) (itL (step P X) [15] g3) = g4 := by kernel_rfl
end KT
