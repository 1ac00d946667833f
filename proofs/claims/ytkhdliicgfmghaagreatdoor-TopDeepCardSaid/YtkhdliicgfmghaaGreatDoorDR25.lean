/- Runs of TopDeep between its states, by the kernel, part 25; no conditions. -/
import Derived.Test.YtkhdliicgfmghaaGreatDoorDS1
import Derived.KernelRfl
open Go Go.Ev
namespace KT
theorem ry7 : gcS (nmL hy7) (itL (step P X) [15] y6) = y7 := by kernel_rfl
theorem en13 : donT (itL (step P X) [5, 3] (mapS (selA 3) (itL (step P X) [13, 12, 10, 8, 7, 4, 3, 1] (mapS (selA 3) s13)))) = true := by kernel_rfl
theorem en42 : donT (itL (step P X) [5, 3, 0] (mapS (selA 32) (itL (step P X) [12, 10, 6, 5, 4, 3, 2, 0] (mapS (selA 32) s31)))) = true := by kernel_rfl
end KT
