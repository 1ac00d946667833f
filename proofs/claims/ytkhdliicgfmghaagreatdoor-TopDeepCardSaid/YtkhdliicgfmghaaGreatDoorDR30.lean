/- Runs of TopDeep between its states, by the kernel, part 30; no conditions. -/
import Derived.Test.YtkhdliicgfmghaaGreatDoorDS1
import Derived.KernelRfl
open Go Go.Ev
namespace KT
theorem rp4 : gcS (nmL hp4) (itL (step P X) [15] p3) = p4 := by kernel_rfl
theorem finy : donT (itL (step P X) [13, 11, 7, 6, 4] ty) = true := by kernel_rfl
theorem en54 : donT (itL (step P X) [5, 3, 0] (mapS (selA 44) (itL (step P X) [13, 8, 6, 5, 0] (mapS (selA 44) s31)))) = true := by kernel_rfl
end KT
