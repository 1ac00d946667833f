/- Runs of TopHeld between its states, by the kernel, part 4; no conditions. -/
import Derived.Test.YtkhdliicgfmghaaGreatDoorHS1
import Derived.KernelRfl
open Go Go.Ev
namespace KT
theorem ka5 (m : Bool) (u : Nat) : gcS (nmL ha5) (itL (step P X) [15] (a4 m u)) = (a5 m u) := by kernel_rfl
theorem kcb (m : Bool) (u : Nat) (x : AV) (hx : x = int2 3 (fRem 3) (.i 3 u) (.i 3 10)) : step P X (ca m u) = bc (isTop x) (.bad 113) (cb m u x) := by subst hx; kernel_rfl
theorem kp4 (m : Bool) (u : Nat) : gcS (nmL ht7) (itL (step P X) [2, 0] (cb m u (.i 3 4))) = (t7 m u 4) := by kernel_rfl
theorem kp5 (m : Bool) (u : Nat) : gcS (nmL ht7) (itL (step P X) [2, 0] (cb m u (.i 3 5))) = (t7 m u 5) := by kernel_rfl
theorem kp6 (m : Bool) (u : Nat) : gcS (nmL ht7) (itL (step P X) [2, 0] (cb m u (.i 3 6))) = (t7 m u 6) := by kernel_rfl
theorem kp7 (m : Bool) (u : Nat) : gcS (nmL ht7) (itL (step P X) [2, 0] (cb m u (.i 3 7))) = (t7 m u 7) := by kernel_rfl
theorem kp8 (m : Bool) (u : Nat) : gcS (nmL ht7) (itL (step P X) [2, 0] (cb m u (.i 3 8))) = (t7 m u 8) := by kernel_rfl
theorem kp9 (m : Bool) (u : Nat) : gcS (nmL ht7) (itL (step P X) [2, 0] (cb m u (.i 3 9))) = (t7 m u 9) := by kernel_rfl
theorem ke2 (m : Bool) (u : Nat) : gcS (nmL he2) (itL (step P X) [13, 11, 9, 7, 6, 5, 4, 3, 2, 1, 0] (t7 m u 2)) = (e2 m u) := by kernel_rfl
end KT
