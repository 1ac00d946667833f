/- Runs of TopDeep between its states, by the kernel, part 3; no conditions. -/
import Derived.Test.YtkhdliicgfmghaaGreatDoorDS1
import Derived.KernelRfl
open Go Go.Ev
namespace KT
theorem po26 (u : Nat) : gcS (nmL hdB) (itL (step P X) [5, 3] (cb u (.i 3 26))) = dd 26 := by kernel_rfl
theorem po27 (u : Nat) : gcS (nmL hdB) (itL (step P X) [5, 3] (cb u (.i 3 27))) = dd 27 := by kernel_rfl
theorem po28 (u : Nat) : gcS (nmL hdB) (itL (step P X) [5, 3] (cb u (.i 3 28))) = dd 28 := by kernel_rfl
theorem po29 (u : Nat) : gcS (nmL hdB) (itL (step P X) [5, 3] (cb u (.i 3 29))) = dd 29 := by kernel_rfl
theorem po30 (u : Nat) : gcS (nmL hdB) (itL (step P X) [5, 3] (cb u (.i 3 30))) = dd 30 := by kernel_rfl
theorem po31 (u : Nat) : gcS (nmL hdB) (itL (step P X) [5, 3] (cb u (.i 3 31))) = dd 31 := by kernel_rfl
theorem po32 (u : Nat) : gcS (nmL hdB) (itL (step P X) [5, 3] (cb u (.i 3 32))) = dd 32 := by kernel_rfl
theorem po33 (u : Nat) : gcS (nmL hdB) (itL (step P X) [5, 3] (cb u (.i 3 33))) = dd 33 := by kernel_rfl
theorem po34 (u : Nat) : gcS (nmL hdB) (itL (step P X) [5, 3] (cb u (.i 3 34))) = dd 34 := by kernel_rfl
theorem ry1 : gcS (nmL hy1) (itL (step P X) [15] (dd 1)) = y1 := by kernel_rfl
theorem rty : gcS (nmL hty) (itL (step P X) [14, 7, 3, 2, 0] y8) = ty := by kernel_rfl
end KT
