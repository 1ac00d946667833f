/- Runs of TopDeep between its states, by the kernel, part 11; no conditions. -/
import Derived.Test.YtkhdliicgfmghaaGreatDoorDS1
import Derived.KernelRfl
open Go Go.Ev
namespace KT
theorem ne7 (u : Nat) : gcS (nmL hdB) (itL (step P X) [5, 3, 0] (cb u (.i 3 (18446744073709551616 - 7)))) = dd 53 := by kernel_rfl
theorem ne8 (u : Nat) : gcS (nmL hdB) (itL (step P X) [5, 3, 0] (cb u (.i 3 (18446744073709551616 - 8)))) = dd 52 := by kernel_rfl
theorem en27 : donT (itL (step P X) [5, 3] (mapS (selA 17) (itL (step P X) [14, 12, 11, 9, 6, 5, 3] (mapS (selA 17) s27)))) = true := by kernel_rfl
theorem en28 : donT (itL (step P X) [5, 3] (mapS (selA 18) (itL (step P X) [14, 12, 11, 10, 8, 3, 0] (mapS (selA 18) s28)))) = true := by kernel_rfl
theorem en38 : donT (itL (step P X) [5, 3, 0] (mapS (selA 28) (itL (step P X) [12, 5, 4, 0] (mapS (selA 28) s31)))) = true := by kernel_rfl
end KT
