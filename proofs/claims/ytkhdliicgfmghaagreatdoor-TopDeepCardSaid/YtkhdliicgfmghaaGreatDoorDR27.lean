/- Runs of TopDeep between its states, by the kernel, part 27; no conditions. -/
import Derived.Test.YtkhdliicgfmghaaGreatDoorDS1
import Derived.KernelRfl
open Go Go.Ev
namespace KT
theorem rp1 : gcS (nmL hp1) (itL (step P X) [15] lp) = p1 := by kernel_rfl
theorem en11 : donT (itL (step P X) [5, 3] (mapS (selA 1) (itL (step P X) [13, 12, 6, 4, 3] (mapS (selA 1) s11)))) = true := by kernel_rfl
theorem en47 : donT (itL (step P X) [5, 3, 0] (mapS (selA 37) (itL (step P X) [12, 11, 8, 7, 6, 4, 3, 2] (mapS (selA 37) s31)))) = true := by kernel_rfl
end KT
