/- Runs of TopDeep between its states, by the kernel, part 9; no conditions. -/
import Derived.Test.YtkhdliicgfmghaaGreatDoorDS1
import Derived.KernelRfl
open Go Go.Ev
namespace KT
theorem ne4 (u : Nat) : gcS (nmL hdB) (itL (step P X) [5, 3, 0] (cb u (.i 3 (18446744073709551616 - 4)))) = dd 56 := by kernel_rfl
theorem rp8 : gcS (nmL hp8) (itL (step P X) [15] p7) = p8 := by kernel_rfl
theorem en6 : donT (itL (step P X) [4, 2] (mapS (selA 4) (itL (step P X) [13, 9, 8, 5, 3, 2, 0] (mapS (selA 4) s6)))) = true := by kernel_rfl
theorem en58 : donT (itL (step P X) [5, 3, 0] (mapS (selA 48) (itL (step P X) [13, 10, 8, 7, 5, 3, 2, 0] (mapS (selA 48) s31)))) = true := by kernel_rfl
end KT
