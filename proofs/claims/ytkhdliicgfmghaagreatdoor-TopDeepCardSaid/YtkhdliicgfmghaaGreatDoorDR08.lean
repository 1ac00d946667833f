/- Runs of TopDeep between its states, by the kernel, part 8; no conditions. -/
import Derived.Test.YtkhdliicgfmghaaGreatDoorDS1
import Derived.KernelRfl
open Go Go.Ev
namespace KT
theorem ne3 (u : Nat) : gcS (nmL hdB) (itL (step P X) [5, 3, 0] (cb u (.i 3 (18446744073709551616 - 3)))) = dd 57 := by kernel_rfl
theorem en25 : donT (itL (step P X) [5, 3] (mapS (selA 15) (itL (step P X) [14, 12, 10, 8, 5, 2, 1] (mapS (selA 15) s25)))) = true := by kernel_rfl
theorem en26 : donT (itL (step P X) [5, 3] (mapS (selA 16) (itL (step P X) [14, 12, 10, 9, 8, 7, 6, 2, 1, 0] (mapS (selA 16) s26)))) = true := by kernel_rfl
theorem en49 : donT (itL (step P X) [5, 3, 0] (mapS (selA 39) (itL (step P X) [12, 11, 10, 1] (mapS (selA 39) s31)))) = true := by kernel_rfl
end KT
