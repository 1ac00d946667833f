/- Runs of TopDeep between its states, by the kernel, part 26; no conditions. -/
import Derived.Test.YtkhdliicgfmghaaGreatDoorDS1
import Derived.KernelRfl
open Go Go.Ev
namespace KT
theorem ry8 : gcS (nmL hy8) (itL (step P X) [15] y7) = y8 := by kernel_rfl
theorem en12 : donT (itL (step P X) [5, 3] (mapS (selA 2) (itL (step P X) [13, 12, 9, 7, 6, 5, 4, 3, 0] (mapS (selA 2) s12)))) = true := by kernel_rfl
theorem en45 : donT (itL (step P X) [5, 3, 0] (mapS (selA 35) (itL (step P X) [12, 10, 9, 8, 7, 5, 4, 2, 1] (mapS (selA 35) s31)))) = true := by kernel_rfl
end KT
