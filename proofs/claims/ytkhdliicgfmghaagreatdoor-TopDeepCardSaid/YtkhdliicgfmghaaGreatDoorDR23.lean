/- Runs of TopDeep between its states, by the kernel, part 23; no conditions. -/
import Derived.Test.YtkhdliicgfmghaaGreatDoorDS1
import Derived.KernelRfl
open Go Go.Ev
namespace KT
theorem ry5 : gcS (nmL hy5) (itL (step P X) [15] y4) = y5 := by kernel_rfl
theorem en15 : donT (itL (step P X) [5, 3] (mapS (selA 5) (itL (step P X) [13, 12, 11, 9, 7, 6, 4, 3, 2] (mapS (selA 5) s15)))) = true := by kernel_rfl
theorem en37 : donT (itL (step P X) [5, 3, 0] (mapS (selA 27) (itL (step P X) [11, 10, 9, 8, 4, 3, 2, 1] (mapS (selA 27) s31)))) = true := by kernel_rfl
end KT
