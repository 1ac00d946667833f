/- Runs of TopDeep between its states, by the kernel, part 29; no conditions. -/
import Derived.Test.YtkhdliicgfmghaaGreatDoorDS1
import Derived.KernelRfl
open Go Go.Ev
namespace KT
theorem rp3 : gcS (nmL hp3) (itL (step P X) [15] p2) = p3 := by kernel_rfl
theorem rs2 : gcS (nmL hs2) (itL (step P X) [12, 11, 10, 9, 8, 7, 6, 5, 4, 1, 0] tp) = s2 := by kernel_rfl
theorem en9 : donT (itL (step P X) [4, 2] (mapS (selA 7) (itL (step P X) [13, 11, 9, 8, 4] (mapS (selA 7) s9)))) = true := by kernel_rfl
end KT
