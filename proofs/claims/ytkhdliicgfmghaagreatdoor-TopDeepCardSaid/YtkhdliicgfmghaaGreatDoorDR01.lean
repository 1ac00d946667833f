/- Runs of TopDeep between its states, by the kernel, part 1; no conditions. -/
import Derived.Test.YtkhdliicgfmghaaGreatDoorDS1
import Derived.KernelRfl
open Go Go.Ev
namespace KT
theorem po10 (u : Nat) : gcS (nmL hdB) (itL (step P X) [5, 3] (cb u (.i 3 10))) = dd 10 := by kernel_rfl
theorem po11 (u : Nat) : gcS (nmL hdB) (itL (step P X) [5, 3] (cb u (.i 3 11))) = dd 11 := by kernel_rfl
theorem po12 (u : Nat) : gcS (nmL hdB) (itL (step P X) [5, 3] (cb u (.i 3 12))) = dd 12 := by kernel_rfl
theorem po13 (u : Nat) : gcS (nmL hdB) (itL (step P X) [5, 3] (cb u (.i 3 13))) = dd 13 := by kernel_rfl
theorem po14 (u : Nat) : gcS (nmL hdB) (itL (step P X) [5, 3] (cb u (.i 3 14))) = dd 14 := by kernel_rfl
theorem po15 (u : Nat) : gcS (nmL hdB) (itL (step P X) [5, 3] (cb u (.i 3 15))) = dd 15 := by kernel_rfl
theorem po16 (u : Nat) : gcS (nmL hdB) (itL (step P X) [5, 3] (cb u (.i 3 16))) = dd 16 := by kernel_rfl
theorem po17 (u : Nat) : gcS (nmL hdB) (itL (step P X) [5, 3] (cb u (.i 3 17))) = dd 17 := by kernel_rfl
theorem rx8 : gcS (nmL hx8) (itL (step P X) [15] x7) = x8 := by kernel_rfl
theorem rtp : gcS (nmL htp) (itL (step P X) [14, 8, 4, 3, 1] p8) = tp := by kernel_rfl
end KT
