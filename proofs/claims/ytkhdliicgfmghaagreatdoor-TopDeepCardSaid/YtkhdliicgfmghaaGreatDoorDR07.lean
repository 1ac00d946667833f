/- Runs of TopDeep between its states, by the kernel, part 7; no conditions. -/
import Derived.Test.YtkhdliicgfmghaaGreatDoorDS1
import Derived.KernelRfl
open Go Go.Ev
namespace KT
theorem ne2 (u : Nat) : gcS (nmL hdB) (itL (step P X) [5, 3, 0] (cb u (.i 3 (18446744073709551616 - 2)))) = dd 58 := by kernel_rfl
theorem rq6 : gcS (nmL hq6) (itL (step P X) [15] q5) = q6 := by kernel_rfl
theorem rs5 : gcS (nmL hs5) (itL (step P X) [11, 10, 8, 5, 4, 3, 2, 1, 0] (mapS (cutA 2 7) s4)) = s5 := by kernel_rfl
theorem rs6 : gcS (nmL hs6) (itL (step P X) [11, 10, 8, 5, 4, 3, 2, 1, 0] (mapS (cutA 3 7) s5)) = s6 := by kernel_rfl
theorem rs7 : gcS (nmL hs7) (itL (step P X) [11, 10, 8, 5, 4, 3, 2, 1, 0] (mapS (cutA 4 7) s6)) = s7 := by kernel_rfl
theorem en36 : donT (itL (step P X) [5, 3, 0] (mapS (selA 26) (itL (step P X) [11, 10, 9, 3, 1, 0] (mapS (selA 26) s31)))) = true := by kernel_rfl
theorem en41 : donT (itL (step P X) [5, 3, 0] (mapS (selA 31) (itL (step P X) [12, 9, 8, 6, 5, 3, 1] (mapS (selA 31) s31)))) = true := by kernel_rfl
end KT
