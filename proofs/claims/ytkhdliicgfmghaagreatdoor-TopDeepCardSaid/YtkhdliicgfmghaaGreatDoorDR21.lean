/- Runs of TopDeep between its states, by the kernel, part 21; no conditions. -/
import Derived.Test.YtkhdliicgfmghaaGreatDoorDS1
import Derived.KernelRfl
open Go Go.Ev
namespace KT
theorem rx7 : gcS (nmL hx7) (itL (step P X) [15] x6) = x7 := by kernel_rfl
theorem rtq : gcS (nmL htq) (itL (step P X) [14, 8, 5, 3, 2] q8) = tq := by kernel_rfl
theorem en32 : donT (itL (step P X) [5, 3, 0] (mapS (selA 22) (itL (step P X) [11, 8, 7, 5, 4, 3, 2, 1, 0] (mapS (selA 22) s31)))) = true := by kernel_rfl
end KT
