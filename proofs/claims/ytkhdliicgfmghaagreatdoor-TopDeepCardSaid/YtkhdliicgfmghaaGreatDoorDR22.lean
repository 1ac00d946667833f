/- Runs of TopDeep between its states, by the kernel, part 22; no conditions. -/
import Derived.Test.YtkhdliicgfmghaaGreatDoorDS1
import Derived.KernelRfl
open Go Go.Ev
namespace KT
theorem ry4 : gcS (nmL hy4) (itL (step P X) [15] y3) = y4 := by kernel_rfl
theorem rs4 : gcS (nmL hs4) (itL (step P X) [11, 10, 8, 5, 4, 3, 2, 1, 0] (mapS (cutA 1 7) s3)) = s4 := by kernel_rfl
theorem en16 : donT (itL (step P X) [5, 3] (mapS (selA 6) (itL (step P X) [13, 12, 11, 10, 8, 6, 5, 4, 3, 2, 0] (mapS (selA 6) s16)))) = true := by kernel_rfl
end KT
