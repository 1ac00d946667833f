/- Runs of TopDeep between its states, by the kernel, part 24; no conditions. -/
import Derived.Test.YtkhdliicgfmghaaGreatDoorDS1
import Derived.KernelRfl
open Go Go.Ev
namespace KT
theorem ry6 : gcS (nmL hy6) (itL (step P X) [15] y5) = y6 := by kernel_rfl
theorem en14 : donT (itL (step P X) [5, 3] (mapS (selA 4) (itL (step P X) [13, 12, 11, 5, 4, 3, 1, 0] (mapS (selA 4) s14)))) = true := by kernel_rfl
theorem en40 : donT (itL (step P X) [5, 3, 0] (mapS (selA 30) (itL (step P X) [12, 9, 6, 4, 2, 1, 0] (mapS (selA 30) s31)))) = true := by kernel_rfl
end KT
