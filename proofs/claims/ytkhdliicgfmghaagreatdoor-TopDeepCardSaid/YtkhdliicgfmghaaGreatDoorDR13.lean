/- Runs of TopDeep between its states, by the kernel, part 13; no conditions. -/
import Derived.Test.YtkhdliicgfmghaaGreatDoorDS1
import Derived.KernelRfl
open Go Go.Ev
namespace KT
theorem ne11 (u : Nat) : gcS (nmL hdB) (itL (step P X) [5, 3, 0] (cb u (.i 3 (18446744073709551616 - 11)))) = dd 49 := by kernel_rfl
theorem ne12 (u : Nat) : gcS (nmL hdB) (itL (step P X) [5, 3, 0] (cb u (.i 3 (18446744073709551616 - 12)))) = dd 48 := by kernel_rfl
theorem ne13 (u : Nat) : gcS (nmL hdB) (itL (step P X) [5, 3, 0] (cb u (.i 3 (18446744073709551616 - 13)))) = dd 47 := by kernel_rfl
theorem rq5 : gcS (nmL hq5) (itL (step P X) [15] q4) = q5 := by kernel_rfl
theorem finx : donT (itL (step P X) [12, 11, 7, 6, 5, 4] tx) = true := by kernel_rfl
theorem en2 : donT (itL (step P X) [4, 2] (mapS (selA 0) (itL (step P X) [12, 11, 7, 5, 3, 0] (mapS (selA 0) s2)))) = true := by kernel_rfl
theorem en43 : donT (itL (step P X) [5, 3, 0] (mapS (selA 33) (itL (step P X) [12, 10, 8, 7, 4] (mapS (selA 33) s31)))) = true := by kernel_rfl
end KT
