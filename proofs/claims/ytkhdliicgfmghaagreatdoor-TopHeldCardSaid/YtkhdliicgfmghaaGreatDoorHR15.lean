/- Runs of TopHeld between its states, by the kernel, part 15; no conditions. -/
import Derived.Test.YtkhdliicgfmghaaGreatDoorHS1
import Derived.KernelRfl
open Go Go.Ev
namespace KT
theorem kp0 (m : Bool) (u : Nat) : gcS (nmL ht7) (itL (step P X) [2, 0] (cb m u (.i 3 0))) = (t7 m u 0) := by kernel_rfl
theorem kp1 (m : Bool) (u : Nat) : gcS (nmL ht7) (itL (step P X) [2, 0] (cb m u (.i 3 1))) = (t7 m u 1) := by kernel_rfl
theorem kp2 (m : Bool) (u : Nat) : gcS (nmL ht7) (itL (step P X) [2, 0] (cb m u (.i 3 2))) = (t7 m u 2) := by kernel_rfl
theorem kp3 (m : Bool) (u : Nat) : gcS (nmL ht7) (itL (step P X) [2, 0] (cb m u (.i 3 3))) = (t7 m u 3) := by kernel_rfl
theorem kn9 (m : Bool) (u : Nat) : gcS (nmL ht7) (itL (step P X) [2, 1] (cb m u (.i 3 (18446744073709551616 - 9)))) = (t7 m u 1) := by kernel_rfl
theorem ke9 (m : Bool) (u : Nat) : gcS (nmL he9) (itL (step P X) [13, 12, 11, 7, 6, 4, 2, 0] (t7 m u 9)) = (e9 m u) := by kernel_rfl
theorem kfz : donT (itL (step P X) [14, 13, 12, 9, 8, 7, 6, 5, 3, 2, 1, 0] (m0 false)) = true := by kernel_rfl
end KT
