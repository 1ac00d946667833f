/- Runs of TopDeep between its states, by the kernel, part 16; no conditions. -/
import Derived.Test.YtkhdliicgfmghaaGreatDoorDS1
import Derived.KernelRfl
open Go Go.Ev
namespace KT
theorem ne23 (u : Nat) : gcS (nmL hdB) (itL (step P X) [5, 3, 0] (cb u (.i 3 (18446744073709551616 - 23)))) = dd 37 := by kernel_rfl
theorem ne24 (u : Nat) : gcS (nmL hdB) (itL (step P X) [5, 3, 0] (cb u (.i 3 (18446744073709551616 - 24)))) = dd 36 := by kernel_rfl
theorem ne25 (u : Nat) : gcS (nmL hdB) (itL (step P X) [5, 3, 0] (cb u (.i 3 (18446744073709551616 - 25)))) = dd 35 := by kernel_rfl
theorem ne26 (u : Nat) : gcS (nmL hdB) (itL (step P X) [5, 3, 0] (cb u (.i 3 (18446744073709551616 - 26)))) = dd 34 := by kernel_rfl
theorem ne27 (u : Nat) : gcS (nmL hdB) (itL (step P X) [5, 3, 0] (cb u (.i 3 (18446744073709551616 - 27)))) = dd 33 := by kernel_rfl
theorem ne28 (u : Nat) : gcS (nmL hdB) (itL (step P X) [5, 3, 0] (cb u (.i 3 (18446744073709551616 - 28)))) = dd 32 := by kernel_rfl
theorem ne29 (u : Nat) : gcS (nmL hdB) (itL (step P X) [5, 3, 0] (cb u (.i 3 (18446744073709551616 - 29)))) = dd 31 := by kernel_rfl
theorem rx5 : gcS (nmL hx5) (itL (step P X) [15] x4) = x5 := by kernel_rfl
theorem en18 : donT (itL (step P X) [5, 3] (mapS (selA 8) (itL (step P X) [14, 9, 7, 5, 4, 3, 2, 1, 0] (mapS (selA 8) s18)))) = true := by kernel_rfl
end KT
