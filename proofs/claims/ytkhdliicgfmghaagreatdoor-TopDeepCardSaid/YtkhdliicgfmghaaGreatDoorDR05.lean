/- Runs of TopDeep between its states, by the kernel, part 5; no conditions. -/
import Derived.Test.YtkhdliicgfmghaaGreatDoorDS1
import Derived.KernelRfl
open Go Go.Ev
namespace KT
theorem po44 (u : Nat) : gcS (nmL hdB) (itL (step P X) [5, 3] (cb u (.i 3 44))) = dd 44 := by kernel_rfl
theorem po45 (u : Nat) : gcS (nmL hdB) (itL (step P X) [5, 3] (cb u (.i 3 45))) = dd 45 := by kernel_rfl
theorem po46 (u : Nat) : gcS (nmL hdB) (itL (step P X) [5, 3] (cb u (.i 3 46))) = dd 46 := by kernel_rfl
theorem po47 (u : Nat) : gcS (nmL hdB) (itL (step P X) [5, 3] (cb u (.i 3 47))) = dd 47 := by kernel_rfl
theorem po48 (u : Nat) : gcS (nmL hdB) (itL (step P X) [5, 3] (cb u (.i 3 48))) = dd 48 := by kernel_rfl
theorem po49 (u : Nat) : gcS (nmL hdB) (itL (step P X) [5, 3] (cb u (.i 3 49))) = dd 49 := by kernel_rfl
theorem po50 (u : Nat) : gcS (nmL hdB) (itL (step P X) [5, 3] (cb u (.i 3 50))) = dd 50 := by kernel_rfl
theorem po51 (u : Nat) : gcS (nmL hdB) (itL (step P X) [5, 3] (cb u (.i 3 51))) = dd 51 := by kernel_rfl
theorem po52 (u : Nat) : gcS (nmL hdB) (itL (step P X) [5, 3] (cb u (.i 3 52))) = dd 52 := by kernel_rfl
theorem ry3 : gcS (nmL hy3) (itL (step P X) [15] y2) = y3 := by kernel_rfl
theorem en17 : donT (itL (step P X) [5, 3] (mapS (selA 7) (itL (step P X) [14, 4, 3, 2, 1] (mapS (selA 7) s17)))) = true := by kernel_rfl
end KT
