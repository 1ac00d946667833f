/- Runs of TopDeep between its states, by the kernel, part 18; no conditions. -/
import Derived.Test.YtkhdliicgfmghaaGreatDoorDS1
import Derived.KernelRfl
open Go Go.Ev
namespace KT
theorem ne37 (u : Nat) : gcS (nmL hdB) (itL (step P X) [5, 3, 0] (cb u (.i 3 (18446744073709551616 - 37)))) = dd 23 := by kernel_rfl
theorem ne38 (u : Nat) : gcS (nmL hdB) (itL (step P X) [5, 3, 0] (cb u (.i 3 (18446744073709551616 - 38)))) = dd 22 := by kernel_rfl
theorem ne39 (u : Nat) : gcS (nmL hdB) (itL (step P X) [5, 3, 0] (cb u (.i 3 (18446744073709551616 - 39)))) = dd 21 := by kernel_rfl
theorem ne40 (u : Nat) : gcS (nmL hdB) (itL (step P X) [5, 3, 0] (cb u (.i 3 (18446744073709551616 - 40)))) = dd 20 := by kernel_rfl
theorem ne41 (u : Nat) : gcS (nmL hdB) (itL (step P X) [5, 3, 0] (cb u (.i 3 (18446744073709551616 - 41)))) = dd 19 := by kernel_rfl
theorem ne42 (u : Nat) : gcS (nmL hdB) (itL (step P X) [5, 3, 0] (cb u (.i 3 (18446744073709551616 - 42)))) = dd 18 := by kernel_rfl
theorem ne43 (u : Nat) : gcS (nmL hdB) (itL (step P X) [5, 3, 0] (cb u (.i 3 (18446744073709551616 - 43)))) = dd 17 := by kernel_rfl
theorem rq7 : gcS (nmL hq7) (itL (step P X) [15] q6) = q7 := by kernel_rfl
theorem rs8 : gcS (nmL hs8) (itL (step P X) [11, 10, 8, 5, 4, 3, 2, 1, 0] (mapS (cutA 5 7) s7)) = s8 := by kernel_rfl
theorem rs9 : gcS (nmL hs9) (itL (step P X) [11, 10, 8, 5, 4, 3, 2, 1, 0] (mapS (cutA 6 7) s8)) = s9 := by kernel_rfl
theorem rs11 : gcS (nmL hs11) (itL (step P X) [11, 10, 8, 5, 4, 3, 2, 1, 0] (mapS (cutA 0 49) s10)) = s11 := by kernel_rfl
theorem rs12 : gcS (nmL hs12) (itL (step P X) [11, 10, 8, 5, 4, 3, 2, 1, 0] (mapS (cutA 1 49) s11)) = s12 := by kernel_rfl
theorem rs13 : gcS (nmL hs13) (itL (step P X) [11, 10, 8, 5, 4, 3, 2, 1, 0] (mapS (cutA 2 49) s12)) = s13 := by kernel_rfl
end KT
