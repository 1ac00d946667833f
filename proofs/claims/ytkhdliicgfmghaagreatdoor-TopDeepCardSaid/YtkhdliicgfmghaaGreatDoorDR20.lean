/- Runs of TopDeep between its states, by the kernel, part 20; no conditions. -/
import Derived.Test.YtkhdliicgfmghaaGreatDoorDS1
import Derived.KernelRfl
open Go Go.Ev
namespace KT
theorem rx1 : gcS (nmL hx1) (itL (step P X) [15] (dd 0)) = x1 := by kernel_rfl
theorem en21 : donT (itL (step P X) [5, 3] (mapS (selA 11) (itL (step P X) [14, 11, 9, 7, 5, 1] (mapS (selA 11) s21)))) = true := by kernel_rfl
end KT
