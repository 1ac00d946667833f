/- Runs of TopDeep between its states, by the kernel, part 19; no conditions. -/
import Derived.Test.YtkhdliicgfmghaaGreatDoorDS1
import Derived.KernelRfl
open Go Go.Ev
namespace KT
theorem ne44 (u : Nat) : gcS (nmL hdB) (itL (step P X) [5, 3, 0] (cb u (.i 3 (18446744073709551616 - 44)))) = dd 16 := by kernel_rfl
theorem ne45 (u : Nat) : gcS (nmL hdB) (itL (step P X) [5, 3, 0] (cb u (.i 3 (18446744073709551616 - 45)))) = dd 15 := by kernel_rfl
theorem ne46 (u : Nat) : gcS (nmL hdB) (itL (step P X) [5, 3, 0] (cb u (.i 3 (18446744073709551616 - 46)))) = dd 14 := by kernel_rfl
theorem ne47 (u : Nat) : gcS (nmL hdB) (itL (step P X) [5, 3, 0] (cb u (.i 3 (18446744073709551616 - 47)))) = dd 13 := by kernel_rfl
theorem ne48 (u : Nat) : gcS (nmL hdB) (itL (step P X) [5, 3, 0] (cb u (.i 3 (18446744073709551616 - 48)))) = dd 12 := by kernel_rfl
theorem ne49 (u : Nat) : gcS (nmL hdB) (itL (step P X) [5, 3, 0] (cb u (.i 3 (18446744073709551616 - 49)))) = dd 11 := by kernel_rfl
theorem ne50 (u : Nat) : gcS (nmL hdB) (itL (step P X) [5, 3, 0] (cb u (.i 3 (18446744073709551616 - 50)))) = dd 10 := by kernel_rfl
theorem rq8 : gcS (nmL hq8) (itL (step P X) [15] q7) = q8 := by kernel_rfl
theorem rs14 : gcS (nmL hs14) (itL (step P X) [11, 10, 8, 5, 4, 3, 2, 1, 0] (mapS (cutA 3 49) s13)) = s14 := by kernel_rfl
theorem rs15 : gcS (nmL hs15) (itL (step P X) [11, 10, 8, 5, 4, 3, 2, 1, 0] (mapS (cutA 4 49) s14)) = s15 := by kernel_rfl
theorem rs16 : gcS (nmL hs16) (itL (step P X) [11, 10, 8, 5, 4, 3, 2, 1, 0] (mapS (cutA 5 49) s15)) = s16 := by kernel_rfl
theorem rs17 : gcS (nmL hs17) (itL (step P X) [11, 10, 8, 5, 4, 3, 2, 1, 0] (mapS (cutA 6 49) s16)) = s17 := by kernel_rfl
theorem rs18 : gcS (nmL hs18) (itL (step P X) [11, 10, 8, 5, 4, 3, 2, 1, 0] (mapS (cutA 7 49) s17)) = s18 := by kernel_rfl
end KT
