/- Runs of TopHeld between its states, by the kernel, part 29; no conditions. -/
import Derived.Test.YtkhdliicgfmghaaGreatDoorHS1
import Derived.KernelRfl
open Go Go.Ev
namespace KT
theorem kg13 : gcS (nmL hg13) (itL (step P X) [15] g12) = g13 := by kernel_rfl
end KT
