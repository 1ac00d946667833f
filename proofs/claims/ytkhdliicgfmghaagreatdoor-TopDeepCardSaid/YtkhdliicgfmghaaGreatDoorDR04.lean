/- Runs of TopDeep between its states, by the kernel, part 4; no conditions. -/
import Derived.Test.YtkhdliicgfmghaaGreatDoorDS1
import Derived.KernelRfl
open Go Go.Ev
namespace KT
theorem po35 (u : Nat) : gcS (nmL hdB) (itL (step P X) [5, 3] (cb u (.i 3 35))) = dd 35 := by kernel_rfl
theorem po36 (u : Nat) : gcS (nmL hdB) (itL (step P X) [5, 3] (cb u (.i 3 36))) = dd 36 := by kernel_rfl
theorem po37 (u : Nat) : gcS (nmL hdB) (itL (step P X) [5, 3] (cb u (.i 3 37))) = dd 37 := by kernel_rfl
theorem po38 (u : Nat) : gcS (nmL hdB) (itL (step P X) [5, 3] (cb u (.i 3 38))) = dd 38 := by kernel_rfl
theorem po39 (u : Nat) : gcS (nmL hdB) (itL (step P X) [5, 3] (cb u (.i 3 39))) = dd 39 := by kernel_rfl
theorem po40 (u : Nat) : gcS (nmL hdB) (itL (step P X) [5, 3] (cb u (.i 3 40))) = dd 40 := by kernel_rfl
theorem po41 (u : Nat) : gcS (nmL hdB) (itL (step P X) [5, 3] (cb u (.i 3 41))) = dd 41 := by kernel_rfl
theorem po42 (u : Nat) : gcS (nmL hdB) (itL (step P X) [5, 3] (cb u (.i 3 42))) = dd 42 := by kernel_rfl
theorem po43 (u : Nat) : gcS (nmL hdB) (itL (step P X) [5, 3] (cb u (.i 3 43))) = dd 43 := by kernel_rfl
theorem rtx : gcS (nmL htx) (itL (step P X) [14, 6, 5, 4, 3, 2, 1, 0] x8) = tx := by kernel_rfl
theorem ry2 : gcS (nmL hy2) (itL (step P X) [15] y1) = y2 := by kernel_rfl
end KT
