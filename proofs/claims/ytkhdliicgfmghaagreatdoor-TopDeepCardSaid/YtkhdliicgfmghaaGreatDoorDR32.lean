/- Runs of TopDeep between its states, by the kernel, part 32; no conditions. -/
import Derived.Test.YtkhdliicgfmghaaGreatDoorDS1
import Derived.KernelRfl
open Go Go.Ev
namespace KT
theorem rp6 : gcS (nmL hp6) (itL (step P X) [15] p5) = p6 := by kernel_rfl
theorem en56 : donT (itL (step P X) [5, 3, 0] (mapS (selA 46) (itL (step P X) [13, 9, 8, 7, 2, 1, 0] (mapS (selA 46) s31)))) = true := by kernel_rfl
theorem en59 : donT (itL (step P X) [5, 3, 0] (mapS (selA 49) (itL (step P X) [13, 10, 9, 7, 6] (mapS (selA 49) s31)))) = true := by kernel_rfl
end KT
