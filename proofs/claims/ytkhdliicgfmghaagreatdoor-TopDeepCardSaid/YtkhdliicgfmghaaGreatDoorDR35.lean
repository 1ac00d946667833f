/- Runs of TopDeep between its states, by the kernel, part 35; no conditions. -/
import Derived.Test.YtkhdliicgfmghaaGreatDoorDS1
import Derived.KernelRfl
open Go Go.Ev
namespace KT
theorem rq3 : gcS (nmL hq3) (itL (step P X) [15] q2) = q3 := by kernel_rfl
theorem en3 : donT (itL (step P X) [4, 2] (mapS (selA 1) (itL (step P X) [12, 11, 9, 8, 6, 3, 1] (mapS (selA 1) s3)))) = true := by kernel_rfl
theorem en4 : donT (itL (step P X) [4, 2] (mapS (selA 2) (itL (step P X) [12, 11, 10, 8, 7, 6, 5, 3, 1, 0] (mapS (selA 2) s4)))) = true := by kernel_rfl
theorem en39 : donT (itL (step P X) [5, 3, 0] (mapS (selA 29) (itL (step P X) [12, 8, 6, 2] (mapS (selA 29) s31)))) = true := by kernel_rfl
end KT
