/- Runs of TopDeep between its states, by the kernel, part 33; no conditions. -/
import Derived.Test.YtkhdliicgfmghaaGreatDoorDS1
import Derived.KernelRfl
open Go Go.Ev
namespace KT
theorem rp7 : gcS (nmL hp7) (itL (step P X) [15] p6) = p7 := by kernel_rfl
theorem en7 : donT (itL (step P X) [4, 2] (mapS (selA 5) (itL (step P X) [13, 10, 8, 7, 6, 3, 2, 1] (mapS (selA 5) s7)))) = true := by kernel_rfl
theorem en57 : donT (itL (step P X) [5, 3, 0] (mapS (selA 47) (itL (step P X) [13, 10, 7, 4, 3, 1] (mapS (selA 47) s31)))) = true := by kernel_rfl
end KT
