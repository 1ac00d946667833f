/- Runs of TopDeep between its states, by the kernel, part 34; no conditions. -/
import Derived.Test.YtkhdliicgfmghaaGreatDoorDS1
import Derived.KernelRfl
open Go Go.Ev
namespace KT
theorem rq2 : gcS (nmL hq2) (itL (step P X) [15] q1) = q2 := by kernel_rfl
theorem rs3 : gcS (nmL hs3) (itL (step P X) [11, 10, 8, 5, 4, 3, 2, 1, 0] (mapS (cutA 0 7) s2)) = s3 := by kernel_rfl
theorem en51 : donT (itL (step P X) [5, 3, 0] (mapS (selA 41) (itL (step P X) [12, 11, 10, 9, 5, 3] (mapS (selA 41) s31)))) = true := by kernel_rfl
theorem en52 : donT (itL (step P X) [5, 3, 0] (mapS (selA 42) (itL (step P X) [12, 11, 10, 9, 8, 5, 4, 3, 1, 0] (mapS (selA 42) s31)))) = true := by kernel_rfl
end KT
