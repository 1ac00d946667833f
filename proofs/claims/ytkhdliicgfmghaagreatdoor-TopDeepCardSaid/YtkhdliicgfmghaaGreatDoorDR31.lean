/- Runs of TopDeep between its states, by the kernel, part 31; no conditions. -/
import Derived.Test.YtkhdliicgfmghaaGreatDoorDS1
import Derived.KernelRfl
open Go Go.Ev
namespace KT
theorem rp5 : gcS (nmL hp5) (itL (step P X) [15] p4) = p5 := by kernel_rfl
theorem en8 : donT (itL (step P X) [4, 2] (mapS (selA 6) (itL (step P X) [13, 11, 6, 5, 3, 2, 1, 0] (mapS (selA 6) s8)))) = true := by kernel_rfl
theorem en55 : donT (itL (step P X) [5, 3, 0] (mapS (selA 45) (itL (step P X) [13, 9, 6, 5, 4, 2] (mapS (selA 45) s31)))) = true := by kernel_rfl
end KT
