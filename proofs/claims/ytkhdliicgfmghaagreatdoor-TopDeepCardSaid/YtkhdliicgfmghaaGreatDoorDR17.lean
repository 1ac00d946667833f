/- Runs of TopDeep between its states, by the kernel, part 17; no conditions. -/
import Derived.Test.YtkhdliicgfmghaaGreatDoorDS1
import Derived.KernelRfl
open Go Go.Ev
namespace KT
theorem ne30 (u : Nat) : gcS (nmL hdB) (itL (step P X) [5, 3, 0] (cb u (.i 3 (18446744073709551616 - 30)))) = dd 30 := by kernel_rfl
theorem ne31 (u : Nat) : gcS (nmL hdB) (itL (step P X) [5, 3, 0] (cb u (.i 3 (18446744073709551616 - 31)))) = dd 29 := by kernel_rfl
theorem ne32 (u : Nat) : gcS (nmL hdB) (itL (step P X) [5, 3, 0] (cb u (.i 3 (18446744073709551616 - 32)))) = dd 28 := by kernel_rfl
theorem ne33 (u : Nat) : gcS (nmL hdB) (itL (step P X) [5, 3, 0] (cb u (.i 3 (18446744073709551616 - 33)))) = dd 27 := by kernel_rfl
theorem ne34 (u : Nat) : gcS (nmL hdB) (itL (step P X) [5, 3, 0] (cb u (.i 3 (18446744073709551616 - 34)))) = dd 26 := by kernel_rfl
theorem ne35 (u : Nat) : gcS (nmL hdB) (itL (step P X) [5, 3, 0] (cb u (.i 3 (18446744073709551616 - 35)))) = dd 25 := by kernel_rfl
theorem ne36 (u : Nat) : gcS (nmL hdB) (itL (step P X) [5, 3, 0] (cb u (.i 3 (18446744073709551616 - 36)))) = dd 24 := by kernel_rfl
theorem rx6 : gcS (nmL hx6) (itL (step P X) [15] x5) = x6 := by kernel_rfl
theorem rs10 : gcS (nmL hs10) (itL (step P X) [14, 9, 5, 4, 3, 1, 0] sq) = s10 := by kernel_rfl
end KT
