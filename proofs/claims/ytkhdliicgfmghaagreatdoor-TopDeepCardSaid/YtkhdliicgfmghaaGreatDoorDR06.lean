/- Runs of TopDeep between its states, by the kernel, part 6; no conditions. -/
import Derived.Test.YtkhdliicgfmghaaGreatDoorDS1
import Derived.KernelRfl
open Go Go.Ev
namespace KT
theorem ne1 (u : Nat) : gcS (nmL hdB) (itL (step P X) [5, 3, 0] (cb u (.i 3 (18446744073709551616 - 1)))) = dd 59 := by kernel_rfl
theorem rs31 : gcS (nmL hs31) (itL (step P X) [13, 10, 9, 7, 6, 5, 4, 3] (mapS (cutA 20 49) s30)) = s31 := by kernel_rfl
theorem en23 : donT (itL (step P X) [5, 3] (mapS (selA 13) (itL (step P X) [14, 11, 10, 9, 8, 7, 6, 5, 2] (mapS (selA 13) s23)))) = true := by kernel_rfl
theorem en24 : donT (itL (step P X) [5, 3] (mapS (selA 14) (itL (step P X) [14, 12, 9, 7, 2, 0] (mapS (selA 14) s24)))) = true := by kernel_rfl
end KT
