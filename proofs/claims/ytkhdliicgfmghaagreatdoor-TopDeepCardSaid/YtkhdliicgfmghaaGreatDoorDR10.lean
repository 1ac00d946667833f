/- Runs of TopDeep between its states, by the kernel, part 10; no conditions. -/
import Derived.Test.YtkhdliicgfmghaaGreatDoorDS1
import Derived.KernelRfl
open Go Go.Ev
namespace KT
theorem ne5 (u : Nat) : gcS (nmL hdB) (itL (step P X) [5, 3, 0] (cb u (.i 3 (18446744073709551616 - 5)))) = dd 55 := by kernel_rfl
theorem ne6 (u : Nat) : gcS (nmL hdB) (itL (step P X) [5, 3, 0] (cb u (.i 3 (18446744073709551616 - 6)))) = dd 54 := by kernel_rfl
theorem rx2 : gcS (nmL hx2) (itL (step P X) [15] x1) = x2 := by kernel_rfl
theorem en20 : donT (itL (step P X) [5, 3] (mapS (selA 10) (itL (step P X) [14, 11, 0] (mapS (selA 10) s20)))) = true := by kernel_rfl
end KT
