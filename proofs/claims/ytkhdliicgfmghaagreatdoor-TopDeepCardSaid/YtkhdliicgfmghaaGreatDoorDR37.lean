/- Runs of TopDeep between its states, by the kernel, part 37; no conditions. -/
import Derived.Test.YtkhdliicgfmghaaGreatDoorDS1
import Derived.KernelRfl
open Go Go.Ev
namespace KT
theorem en29 : donT (itL (step P X) [5, 3] (mapS (selA 19) (itL (step P X) [14, 12, 11, 10, 9, 8, 7, 5, 3, 1] (mapS (selA 19) s29)))) = true := by kernel_rfl
theorem en30 : donT (itL (step P X) [5, 3] (mapS (selA 20) (itL (step P X) [14, 13, 9, 6, 3, 1, 0] (mapS (selA 20) s30)))) = true := by kernel_rfl
theorem en31 : donT (itL (step P X) [5, 3, 0] (mapS (selA 21) (itL (step P X) [11, 7, 5, 3, 2] (mapS (selA 21) s31)))) = true := by kernel_rfl
end KT
