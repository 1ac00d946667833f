/- Runs of TopDeep between its states, by the kernel, part 12; no conditions. -/
import Derived.Test.YtkhdliicgfmghaaGreatDoorDS1
import Derived.KernelRfl
open Go Go.Ev
namespace KT
theorem ne9 (u : Nat) : gcS (nmL hdB) (itL (step P X) [5, 3, 0] (cb u (.i 3 (18446744073709551616 - 9)))) = dd 51 := by kernel_rfl
theorem ne10 (u : Nat) : gcS (nmL hdB) (itL (step P X) [5, 3, 0] (cb u (.i 3 (18446744073709551616 - 10)))) = dd 50 := by kernel_rfl
theorem rx3 : gcS (nmL hx3) (itL (step P X) [15] x2) = x3 := by kernel_rfl
theorem rsq : gcS (nmL hsq) (itL (step P X) [14, 10, 9, 8, 7, 5, 4] tq) = sq := by kernel_rfl
end KT
