/- Runs of TopDeep between its states, by the kernel, part 28; no conditions. -/
import Derived.Test.YtkhdliicgfmghaaGreatDoorDS1
import Derived.KernelRfl
open Go Go.Ev
namespace KT
theorem rp2 : gcS (nmL hp2) (itL (step P X) [15] p1) = p2 := by kernel_rfl
theorem en10 : donT (itL (step P X) [5, 3] (mapS (selA 0) (itL (step P X) [13, 11, 10, 8, 7, 5, 4, 2, 1, 0] (mapS (selA 0) s10)))) = true := by kernel_rfl
theorem en50 : donT (itL (step P X) [5, 3, 0] (mapS (selA 40) (itL (step P X) [12, 11, 10, 8, 4, 2, 0] (mapS (selA 40) s31)))) = true := by kernel_rfl
end KT
