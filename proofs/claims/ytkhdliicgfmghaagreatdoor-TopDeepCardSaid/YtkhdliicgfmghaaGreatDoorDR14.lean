/- Runs of TopDeep between its states, by the kernel, part 14; no conditions. -/
import Derived.Test.YtkhdliicgfmghaaGreatDoorDS1
import Derived.KernelRfl
open Go Go.Ev
namespace KT
theorem ne14 (u : Nat) : gcS (nmL hdB) (itL (step P X) [5, 3, 0] (cb u (.i 3 (18446744073709551616 - 14)))) = dd 46 := by kernel_rfl
theorem ne15 (u : Nat) : gcS (nmL hdB) (itL (step P X) [5, 3, 0] (cb u (.i 3 (18446744073709551616 - 15)))) = dd 45 := by kernel_rfl
theorem ne16 (u : Nat) : gcS (nmL hdB) (itL (step P X) [5, 3, 0] (cb u (.i 3 (18446744073709551616 - 16)))) = dd 44 := by kernel_rfl
theorem ne17 (u : Nat) : gcS (nmL hdB) (itL (step P X) [5, 3, 0] (cb u (.i 3 (18446744073709551616 - 17)))) = dd 43 := by kernel_rfl
theorem rx4 : gcS (nmL hx4) (itL (step P X) [15] x3) = x4 := by kernel_rfl
theorem en19 : donT (itL (step P X) [5, 3] (mapS (selA 9) (itL (step P X) [14, 10, 8, 6, 5] (mapS (selA 9) s19)))) = true := by kernel_rfl
end KT
