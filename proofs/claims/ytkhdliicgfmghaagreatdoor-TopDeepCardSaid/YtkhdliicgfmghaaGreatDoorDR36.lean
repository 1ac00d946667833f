/- Runs of TopDeep between its states, by the kernel, part 36; no conditions. -/
import Derived.Test.YtkhdliicgfmghaaGreatDoorDS1
import Derived.KernelRfl
open Go Go.Ev
namespace KT
theorem rq4 : gcS (nmL hq4) (itL (step P X) [15] q3) = q4 := by kernel_rfl
theorem en44 : donT (itL (step P X) [5, 3, 0] (mapS (selA 34) (itL (step P X) [12, 10, 9, 7, 5, 1, 0] (mapS (selA 34) s31)))) = true := by kernel_rfl
theorem en46 : donT (itL (step P X) [5, 3, 0] (mapS (selA 36) (itL (step P X) [12, 11, 7, 6, 3, 0] (mapS (selA 36) s31)))) = true := by kernel_rfl
theorem en48 : donT (itL (step P X) [5, 3, 0] (mapS (selA 38) (itL (step P X) [12, 11, 9, 7, 6, 5, 3, 2, 1, 0] (mapS (selA 38) s31)))) = true := by kernel_rfl
end KT
