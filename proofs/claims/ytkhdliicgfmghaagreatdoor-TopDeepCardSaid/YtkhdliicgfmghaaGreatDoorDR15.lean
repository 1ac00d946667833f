/- Runs of TopDeep between its states, by the kernel, part 15; no conditions. -/
import Derived.Test.YtkhdliicgfmghaaGreatDoorDS1
import Derived.KernelRfl
open Go Go.Ev
namespace KT
theorem ne18 (u : Nat) : gcS (nmL hdB) (itL (step P X) [5, 3, 0] (cb u (.i 3 (18446744073709551616 - 18)))) = dd 42 := by kernel_rfl
theorem ne19 (u : Nat) : gcS (nmL hdB) (itL (step P X) [5, 3, 0] (cb u (.i 3 (18446744073709551616 - 19)))) = dd 41 := by kernel_rfl
theorem ne20 (u : Nat) : gcS (nmL hdB) (itL (step P X) [5, 3, 0] (cb u (.i 3 (18446744073709551616 - 20)))) = dd 40 := by kernel_rfl
theorem ne21 (u : Nat) : gcS (nmL hdB) (itL (step P X) [5, 3, 0] (cb u (.i 3 (18446744073709551616 - 21)))) = dd 39 := by kernel_rfl
theorem ne22 (u : Nat) : gcS (nmL hdB) (itL (step P X) [5, 3, 0] (cb u (.i 3 (18446744073709551616 - 22)))) = dd 38 := by kernel_rfl
theorem rs19 : gcS (nmL hs19) (itL (step P X) [11, 10, 8, 5, 4, 3, 2, 1, 0] (mapS (cutA 8 49) s18)) = s19 := by kernel_rfl
theorem rs20 : gcS (nmL hs20) (itL (step P X) [11, 10, 8, 5, 4, 3, 2, 1, 0] (mapS (cutA 9 49) s19)) = s20 := by kernel_rfl
theorem rs21 : gcS (nmL hs21) (itL (step P X) [11, 10, 8, 5, 4, 3, 2, 1, 0] (mapS (cutA 10 49) s20)) = s21 := by kernel_rfl
theorem rs22 : gcS (nmL hs22) (itL (step P X) [11, 10, 8, 5, 4, 3, 2, 1, 0] (mapS (cutA 11 49) s21)) = s22 := by kernel_rfl
theorem rs23 : gcS (nmL hs23) (itL (step P X) [11, 10, 8, 5, 4, 3, 2, 1, 0] (mapS (cutA 12 49) s22)) = s23 := by kernel_rfl
theorem rs24 : gcS (nmL hs24) (itL (step P X) [11, 10, 8, 5, 4, 3, 2, 1, 0] (mapS (cutA 13 49) s23)) = s24 := by kernel_rfl
theorem rs25 : gcS (nmL hs25) (itL (step P X) [11, 10, 8, 5, 4, 3, 2, 1, 0] (mapS (cutA 14 49) s24)) = s25 := by kernel_rfl
theorem rs26 : gcS (nmL hs26) (itL (step P X) [11, 10, 8, 5, 4, 3, 2, 1, 0] (mapS (cutA 15 49) s25)) = s26 := by kernel_rfl
theorem rs27 : gcS (nmL hs27) (itL (step P X) [11, 10, 8, 5, 4, 3, 2, 1, 0] (mapS (cutA 16 49) s26)) = s27 := by kernel_rfl
theorem en22 : donT (itL (step P X) [5, 3] (mapS (selA 12) (itL (step P X) [14, 11, 10, 8, 6, 1, 0] (mapS (selA 12) s22)))) = true := by kernel_rfl
end KT
