/- Runs of TopHeld between its states, by the kernel, part 16; no conditions. -/
import Derived.Test.YtkhdliicgfmghaaGreatDoorHS1
import Derived.KernelRfl
open Go Go.Ev
namespace KT
theorem ke7 (m : Bool) (u : Nat) : gcS (nmL he7) (itL (step P X) [13, 12, 10, 7, 6, 5, 0] (t7 m u 7)) = (e7 m u) := by kernel_rfl
end KT
