/- Runs of TopHeld between its states, by the kernel, part 0; no conditions. -/
import Derived.Test.YtkhdliicgfmghaaGreatDoorHS1
import Derived.KernelRfl
open Go Go.Ev
namespace KT
theorem ka1 (m : Bool) (u : Nat) : gcS (nmL ha1) (itL (step P X) [15] (s0 m u)) = (a1 m u) := by kernel_rfl
theorem ke6 (m : Bool) (u : Nat) : gcS (nmL he6) (itL (step P X) [13, 12, 9, 7, 6, 5, 2, 1, 0] (t7 m u 6)) = (e6 m u) := by kernel_rfl
end KT
