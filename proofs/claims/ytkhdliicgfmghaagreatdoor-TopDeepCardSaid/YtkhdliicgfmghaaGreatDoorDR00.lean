/- Runs of TopDeep between its states, by the kernel, part 0; no conditions. -/
import Derived.Test.YtkhdliicgfmghaaGreatDoorDS1
import Derived.KernelRfl
open Go Go.Ev
namespace KT
theorem ka (u : Nat) : gcS (nmL hca) (itL (step P X) [2, 0] (s0 u)) = (ca u) := by kernel_rfl
theorem kcb (u : Nat) (x : AV) (hx : x = int2 3 (fRem 3) (.i 3 u) (.i 3 60)) : step P X (ca u) = bc (isTop x) (.bad 113) (cb u x) := by subst hx; kernel_rfl
theorem po0 (u : Nat) : gcS (nmL hdA) (itL (step P X) [4, 2] (cb u (.i 3 0))) = dd 0 := by kernel_rfl
theorem po1 (u : Nat) : gcS (nmL hdA) (itL (step P X) [4, 2] (cb u (.i 3 1))) = dd 1 := by kernel_rfl
theorem po2 (u : Nat) : gcS (nmL hdA) (itL (step P X) [4, 2] (cb u (.i 3 2))) = dd 2 := by kernel_rfl
theorem po3 (u : Nat) : gcS (nmL hdA) (itL (step P X) [4, 2] (cb u (.i 3 3))) = dd 3 := by kernel_rfl
theorem po4 (u : Nat) : gcS (nmL hdA) (itL (step P X) [4, 2] (cb u (.i 3 4))) = dd 4 := by kernel_rfl
theorem po5 (u : Nat) : gcS (nmL hdA) (itL (step P X) [4, 2] (cb u (.i 3 5))) = dd 5 := by kernel_rfl
theorem po6 (u : Nat) : gcS (nmL hdA) (itL (step P X) [4, 2] (cb u (.i 3 6))) = dd 6 := by kernel_rfl
theorem po7 (u : Nat) : gcS (nmL hdA) (itL (step P X) [4, 2] (cb u (.i 3 7))) = dd 7 := by kernel_rfl
theorem po8 (u : Nat) : gcS (nmL hdA) (itL (step P X) [4, 2] (cb u (.i 3 8))) = dd 8 := by kernel_rfl
theorem po9 (u : Nat) : gcS (nmL hdA) (itL (step P X) [4, 2] (cb u (.i 3 9))) = dd 9 := by kernel_rfl
theorem po53 (u : Nat) : gcS (nmL hdB) (itL (step P X) [5, 3] (cb u (.i 3 53))) = dd 53 := by kernel_rfl
theorem po54 (u : Nat) : gcS (nmL hdB) (itL (step P X) [5, 3] (cb u (.i 3 54))) = dd 54 := by kernel_rfl
theorem po55 (u : Nat) : gcS (nmL hdB) (itL (step P X) [5, 3] (cb u (.i 3 55))) = dd 55 := by kernel_rfl
theorem po56 (u : Nat) : gcS (nmL hdB) (itL (step P X) [5, 3] (cb u (.i 3 56))) = dd 56 := by kernel_rfl
theorem po57 (u : Nat) : gcS (nmL hdB) (itL (step P X) [5, 3] (cb u (.i 3 57))) = dd 57 := by kernel_rfl
theorem po58 (u : Nat) : gcS (nmL hdB) (itL (step P X) [5, 3] (cb u (.i 3 58))) = dd 58 := by kernel_rfl
theorem po59 (u : Nat) : gcS (nmL hdB) (itL (step P X) [5, 3] (cb u (.i 3 59))) = dd 59 := by kernel_rfl
theorem ne51 (u : Nat) : gcS (nmL hdA) (itL (step P X) [4, 2, 0] (cb u (.i 3 (18446744073709551616 - 51)))) = dd 9 := by kernel_rfl
theorem ne52 (u : Nat) : gcS (nmL hdA) (itL (step P X) [4, 2, 0] (cb u (.i 3 (18446744073709551616 - 52)))) = dd 8 := by kernel_rfl
theorem ne53 (u : Nat) : gcS (nmL hdA) (itL (step P X) [4, 2, 0] (cb u (.i 3 (18446744073709551616 - 53)))) = dd 7 := by kernel_rfl
theorem ne54 (u : Nat) : gcS (nmL hdA) (itL (step P X) [4, 2, 0] (cb u (.i 3 (18446744073709551616 - 54)))) = dd 6 := by kernel_rfl
theorem ne55 (u : Nat) : gcS (nmL hdA) (itL (step P X) [4, 2, 0] (cb u (.i 3 (18446744073709551616 - 55)))) = dd 5 := by kernel_rfl
theorem ne56 (u : Nat) : gcS (nmL hdA) (itL (step P X) [4, 2, 0] (cb u (.i 3 (18446744073709551616 - 56)))) = dd 4 := by kernel_rfl
theorem ne57 (u : Nat) : gcS (nmL hdA) (itL (step P X) [4, 2, 0] (cb u (.i 3 (18446744073709551616 - 57)))) = dd 3 := by kernel_rfl
theorem ne58 (u : Nat) : gcS (nmL hdA) (itL (step P X) [4, 2, 0] (cb u (.i 3 (18446744073709551616 - 58)))) = dd 2 := by kernel_rfl
theorem ne59 (u : Nat) : gcS (nmL hdA) (itL (step P X) [4, 2, 0] (cb u (.i 3 (18446744073709551616 - 59)))) = dd 1 := by kernel_rfl
theorem la2 : envS 0 elp (psN 30) 1 (dd 2) = lp := by kernel_rfl
theorem la3 : envS 1 elp (psN 30) 1 (dd 3) = lp := by kernel_rfl
theorem la4 : envS 2 elp (psN 30) 1 (dd 4) = lp := by kernel_rfl
theorem la5 : envS 3 elp (psN 30) 1 (dd 5) = lp := by kernel_rfl
theorem la6 : envS 4 elp (psN 30) 1 (dd 6) = lp := by kernel_rfl
theorem la7 : envS 5 elp (psN 30) 1 (dd 7) = lp := by kernel_rfl
theorem la8 : envS 6 elp (psN 30) 1 (dd 8) = lp := by kernel_rfl
theorem la9 : envS 7 elp (psN 30) 1 (dd 9) = lp := by kernel_rfl
theorem la10 : envS 0 elq (psN 30) 1 (dd 10) = lq := by kernel_rfl
theorem la11 : envS 1 elq (psN 30) 1 (dd 11) = lq := by kernel_rfl
theorem la12 : envS 2 elq (psN 30) 1 (dd 12) = lq := by kernel_rfl
theorem la13 : envS 3 elq (psN 30) 1 (dd 13) = lq := by kernel_rfl
theorem la14 : envS 4 elq (psN 30) 1 (dd 14) = lq := by kernel_rfl
theorem la15 : envS 5 elq (psN 30) 1 (dd 15) = lq := by kernel_rfl
theorem la16 : envS 6 elq (psN 30) 1 (dd 16) = lq := by kernel_rfl
theorem la17 : envS 7 elq (psN 30) 1 (dd 17) = lq := by kernel_rfl
theorem la18 : envS 8 elq (psN 30) 1 (dd 18) = lq := by kernel_rfl
theorem la19 : envS 9 elq (psN 30) 1 (dd 19) = lq := by kernel_rfl
theorem la20 : envS 10 elq (psN 30) 1 (dd 20) = lq := by kernel_rfl
theorem la21 : envS 11 elq (psN 30) 1 (dd 21) = lq := by kernel_rfl
theorem la22 : envS 12 elq (psN 30) 1 (dd 22) = lq := by kernel_rfl
theorem la23 : envS 13 elq (psN 30) 1 (dd 23) = lq := by kernel_rfl
theorem la24 : envS 14 elq (psN 30) 1 (dd 24) = lq := by kernel_rfl
theorem la25 : envS 15 elq (psN 30) 1 (dd 25) = lq := by kernel_rfl
theorem la26 : envS 16 elq (psN 30) 1 (dd 26) = lq := by kernel_rfl
theorem la27 : envS 17 elq (psN 30) 1 (dd 27) = lq := by kernel_rfl
theorem la28 : envS 18 elq (psN 30) 1 (dd 28) = lq := by kernel_rfl
theorem la29 : envS 19 elq (psN 30) 1 (dd 29) = lq := by kernel_rfl
theorem la30 : envS 20 elq (psN 30) 1 (dd 30) = lq := by kernel_rfl
theorem la31 : envS 21 elq (psN 30) 1 (dd 31) = lq := by kernel_rfl
theorem la32 : envS 22 elq (psN 30) 1 (dd 32) = lq := by kernel_rfl
theorem la33 : envS 23 elq (psN 30) 1 (dd 33) = lq := by kernel_rfl
theorem la34 : envS 24 elq (psN 30) 1 (dd 34) = lq := by kernel_rfl
theorem la35 : envS 25 elq (psN 30) 1 (dd 35) = lq := by kernel_rfl
theorem la36 : envS 26 elq (psN 30) 1 (dd 36) = lq := by kernel_rfl
theorem la37 : envS 27 elq (psN 30) 1 (dd 37) = lq := by kernel_rfl
theorem la38 : envS 28 elq (psN 30) 1 (dd 38) = lq := by kernel_rfl
theorem la39 : envS 29 elq (psN 30) 1 (dd 39) = lq := by kernel_rfl
theorem la40 : envS 30 elq (psN 30) 1 (dd 40) = lq := by kernel_rfl
theorem la41 : envS 31 elq (psN 30) 1 (dd 41) = lq := by kernel_rfl
theorem la42 : envS 32 elq (psN 30) 1 (dd 42) = lq := by kernel_rfl
theorem la43 : envS 33 elq (psN 30) 1 (dd 43) = lq := by kernel_rfl
theorem la44 : envS 34 elq (psN 30) 1 (dd 44) = lq := by kernel_rfl
theorem la45 : envS 35 elq (psN 30) 1 (dd 45) = lq := by kernel_rfl
theorem la46 : envS 36 elq (psN 30) 1 (dd 46) = lq := by kernel_rfl
theorem la47 : envS 37 elq (psN 30) 1 (dd 47) = lq := by kernel_rfl
theorem la48 : envS 38 elq (psN 30) 1 (dd 48) = lq := by kernel_rfl
theorem la49 : envS 39 elq (psN 30) 1 (dd 49) = lq := by kernel_rfl
theorem la50 : envS 40 elq (psN 30) 1 (dd 50) = lq := by kernel_rfl
theorem la51 : envS 41 elq (psN 30) 1 (dd 51) = lq := by kernel_rfl
theorem la52 : envS 42 elq (psN 30) 1 (dd 52) = lq := by kernel_rfl
theorem la53 : envS 43 elq (psN 30) 1 (dd 53) = lq := by kernel_rfl
theorem la54 : envS 44 elq (psN 30) 1 (dd 54) = lq := by kernel_rfl
theorem la55 : envS 45 elq (psN 30) 1 (dd 55) = lq := by kernel_rfl
theorem la56 : envS 46 elq (psN 30) 1 (dd 56) = lq := by kernel_rfl
theorem la57 : envS 47 elq (psN 30) 1 (dd 57) = lq := by kernel_rfl
theorem la58 : envS 48 elq (psN 30) 1 (dd 58) = lq := by kernel_rfl
theorem la59 : envS 49 elq (psN 30) 1 (dd 59) = lq := by kernel_rfl
theorem rs28 : gcS (nmL hs28) (itL (step P X) [11, 10, 8, 5, 4, 3, 2, 1, 0] (mapS (cutA 17 49) s27)) = s28 := by kernel_rfl
theorem rs29 : gcS (nmL hs29) (itL (step P X) [11, 10, 8, 5, 4, 3, 2, 1, 0] (mapS (cutA 18 49) s28)) = s29 := by kernel_rfl
theorem rs30 : gcS (nmL hs30) (itL (step P X) [11, 10, 8, 5, 4, 3, 2, 1, 0] (mapS (cutA 19 49) s29)) = s30 := by kernel_rfl
theorem en33 : donT (itL (step P X) [5, 3, 0] (mapS (selA 23) (itL (step P X) [11, 9, 7, 6, 4, 1] (mapS (selA 23) s31)))) = true := by kernel_rfl
theorem en34 : donT (itL (step P X) [5, 3, 0] (mapS (selA 24) (itL (step P X) [11, 9, 8, 7, 6, 5, 2, 0] (mapS (selA 24) s31)))) = true := by kernel_rfl
theorem en35 : donT (itL (step P X) [5, 3, 0] (mapS (selA 25) (itL (step P X) [11, 10, 7, 6, 5, 4, 3] (mapS (selA 25) s31)))) = true := by kernel_rfl
end KT
