/- Runs of TopDeep between its states, by the kernel, part 2; no conditions. -/
import Derived.Test.YtkhdliicgfmghaaGreatDoorDS1
import Derived.KernelRfl
open Go Go.Ev
namespace KT
theorem po18 (u : Nat) : gcS (nmL hdB) (itL (step P X) [5, 3] (cb u (.i 3 18))) = dd 18 := by kernel_rfl
theorem po19 (u : Nat) : gcS (nmL hdB) (itL (step P X) [5, 3] (cb u (.i 3 19))) = dd 19 := by kernel_rfl
theorem po20 (u : Nat) : gcS (nmL hdB) (itL (step P X) [5, 3] (cb u (.i 3 20))) = dd 20 := by kernel_rfl
theorem po21 (u : Nat) : gcS (nmL hdB) (itL (step P X) [5, 3] (cb u (.i 3 21))) = dd 21 := by kernel_rfl
theorem po22 (u : Nat) : gcS (nmL hdB) (itL (step P X) [5, 3] (cb u (.i 3 22))) = dd 22 := by kernel_rfl
theorem po23 (u : Nat) : gcS (nmL hdB) (itL (step P X) [5, 3] (cb u (.i 3 23))) = dd 23 := by kernel_rfl
theorem po24 (u : Nat) : gcS (nmL hdB) (itL (step P X) [5, 3] (cb u (.i 3 24))) = dd 24 := by kernel_rfl
theorem po25 (u : Nat) : gcS (nmL hdB) (itL (step P X) [5, 3] (cb u (.i 3 25))) = dd 25 := by kernel_rfl
theorem rq1 : gcS (nmL hq1) (itL (step P X) [15] lq) = q1 := by kernel_rfl
theorem en5 : donT (itL (step P X) [4, 2] (mapS (selA 3) (itL (step P X) [13, 7, 3, 2] (mapS (selA 3) s5)))) = true := by kernel_rfl
theorem en53 : donT (itL (step P X) [5, 3, 0] (mapS (selA 43) (itL (step P X) [13, 6, 3, 2, 1] (mapS (selA 43) s31)))) = true := by kernel_rfl
end KT
