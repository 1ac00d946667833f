/- The runs of TopDeep joined: from the start its calls return true; no conditions but that the state is the start. -/
import Derived.KernelRfl
import Derived.Test.YtkhdliicgfmghaaGreatDoorDR00
import Derived.Test.YtkhdliicgfmghaaGreatDoorDR01
import Derived.Test.YtkhdliicgfmghaaGreatDoorDR02
import Derived.Test.YtkhdliicgfmghaaGreatDoorDR03
import Derived.Test.YtkhdliicgfmghaaGreatDoorDR04
import Derived.Test.YtkhdliicgfmghaaGreatDoorDR05
import Derived.Test.YtkhdliicgfmghaaGreatDoorDR06
import Derived.Test.YtkhdliicgfmghaaGreatDoorDR07
import Derived.Test.YtkhdliicgfmghaaGreatDoorDR08
import Derived.Test.YtkhdliicgfmghaaGreatDoorDR09
import Derived.Test.YtkhdliicgfmghaaGreatDoorDR10
import Derived.Test.YtkhdliicgfmghaaGreatDoorDR11
import Derived.Test.YtkhdliicgfmghaaGreatDoorDR12
import Derived.Test.YtkhdliicgfmghaaGreatDoorDR13
import Derived.Test.YtkhdliicgfmghaaGreatDoorDR14
import Derived.Test.YtkhdliicgfmghaaGreatDoorDR15
import Derived.Test.YtkhdliicgfmghaaGreatDoorDR16
import Derived.Test.YtkhdliicgfmghaaGreatDoorDR17
import Derived.Test.YtkhdliicgfmghaaGreatDoorDR18
import Derived.Test.YtkhdliicgfmghaaGreatDoorDR19
import Derived.Test.YtkhdliicgfmghaaGreatDoorDR20
import Derived.Test.YtkhdliicgfmghaaGreatDoorDR21
import Derived.Test.YtkhdliicgfmghaaGreatDoorDR22
import Derived.Test.YtkhdliicgfmghaaGreatDoorDR23
import Derived.Test.YtkhdliicgfmghaaGreatDoorDR24
import Derived.Test.YtkhdliicgfmghaaGreatDoorDR25
import Derived.Test.YtkhdliicgfmghaaGreatDoorDR26
import Derived.Test.YtkhdliicgfmghaaGreatDoorDR27
import Derived.Test.YtkhdliicgfmghaaGreatDoorDR28
import Derived.Test.YtkhdliicgfmghaaGreatDoorDR29
import Derived.Test.YtkhdliicgfmghaaGreatDoorDR30
import Derived.Test.YtkhdliicgfmghaaGreatDoorDR31
import Derived.Test.YtkhdliicgfmghaaGreatDoorDR32
import Derived.Test.YtkhdliicgfmghaaGreatDoorDR33
import Derived.Test.YtkhdliicgfmghaaGreatDoorDR34
import Derived.Test.YtkhdliicgfmghaaGreatDoorDR35
import Derived.Test.YtkhdliicgfmghaaGreatDoorDR36
import Derived.Test.YtkhdliicgfmghaaGreatDoorDR37
open Go Go.Ev
namespace KT
theorem xs : XS P X := XS.of (f0 := 475) (by kernel_rfl) (by kernel_rfl) (by kernel_rfl) (by kernel_rfl) (by kernel_rfl)
theorem hm : P.follows .mixedOrders = true := by kernel_rfl
variable {args : Array Value} {w : World} {u j : Nat}
theorem posd : ∀ {c : Nat}, c < 60 → From P X j 5 args w (cb u (.i 3 c)) → From P X j 5 args w (dd c)
  | 0, _, h => h.run xs hm (po0 u)
  | 1, _, h => h.run xs hm (po1 u)
  | 2, _, h => h.run xs hm (po2 u)
  | 3, _, h => h.run xs hm (po3 u)
  | 4, _, h => h.run xs hm (po4 u)
  | 5, _, h => h.run xs hm (po5 u)
  | 6, _, h => h.run xs hm (po6 u)
  | 7, _, h => h.run xs hm (po7 u)
  | 8, _, h => h.run xs hm (po8 u)
  | 9, _, h => h.run xs hm (po9 u)
  | 10, _, h => h.run xs hm (po10 u)
  | 11, _, h => h.run xs hm (po11 u)
  | 12, _, h => h.run xs hm (po12 u)
  | 13, _, h => h.run xs hm (po13 u)
  | 14, _, h => h.run xs hm (po14 u)
  | 15, _, h => h.run xs hm (po15 u)
  | 16, _, h => h.run xs hm (po16 u)
  | 17, _, h => h.run xs hm (po17 u)
  | 18, _, h => h.run xs hm (po18 u)
  | 19, _, h => h.run xs hm (po19 u)
  | 20, _, h => h.run xs hm (po20 u)
  | 21, _, h => h.run xs hm (po21 u)
  | 22, _, h => h.run xs hm (po22 u)
  | 23, _, h => h.run xs hm (po23 u)
  | 24, _, h => h.run xs hm (po24 u)
  | 25, _, h => h.run xs hm (po25 u)
  | 26, _, h => h.run xs hm (po26 u)
  | 27, _, h => h.run xs hm (po27 u)
  | 28, _, h => h.run xs hm (po28 u)
  | 29, _, h => h.run xs hm (po29 u)
  | 30, _, h => h.run xs hm (po30 u)
  | 31, _, h => h.run xs hm (po31 u)
  | 32, _, h => h.run xs hm (po32 u)
  | 33, _, h => h.run xs hm (po33 u)
  | 34, _, h => h.run xs hm (po34 u)
  | 35, _, h => h.run xs hm (po35 u)
  | 36, _, h => h.run xs hm (po36 u)
  | 37, _, h => h.run xs hm (po37 u)
  | 38, _, h => h.run xs hm (po38 u)
  | 39, _, h => h.run xs hm (po39 u)
  | 40, _, h => h.run xs hm (po40 u)
  | 41, _, h => h.run xs hm (po41 u)
  | 42, _, h => h.run xs hm (po42 u)
  | 43, _, h => h.run xs hm (po43 u)
  | 44, _, h => h.run xs hm (po44 u)
  | 45, _, h => h.run xs hm (po45 u)
  | 46, _, h => h.run xs hm (po46 u)
  | 47, _, h => h.run xs hm (po47 u)
  | 48, _, h => h.run xs hm (po48 u)
  | 49, _, h => h.run xs hm (po49 u)
  | 50, _, h => h.run xs hm (po50 u)
  | 51, _, h => h.run xs hm (po51 u)
  | 52, _, h => h.run xs hm (po52 u)
  | 53, _, h => h.run xs hm (po53 u)
  | 54, _, h => h.run xs hm (po54 u)
  | 55, _, h => h.run xs hm (po55 u)
  | 56, _, h => h.run xs hm (po56 u)
  | 57, _, h => h.run xs hm (po57 u)
  | 58, _, h => h.run xs hm (po58 u)
  | 59, _, h => h.run xs hm (po59 u)
  | c + 60, hc, _ => absurd hc (by omega)
theorem negd : ∀ {c : Nat}, 0 < c → c < 60 → From P X j 5 args w (cb u (.i 3 (18446744073709551616 - c))) → From P X j 5 args w (dd (60 - c))
  | 0, hc, _, _ => absurd hc (by omega)
  | 1, _, _, h => h.run xs hm (ne1 u)
  | 2, _, _, h => h.run xs hm (ne2 u)
  | 3, _, _, h => h.run xs hm (ne3 u)
  | 4, _, _, h => h.run xs hm (ne4 u)
  | 5, _, _, h => h.run xs hm (ne5 u)
  | 6, _, _, h => h.run xs hm (ne6 u)
  | 7, _, _, h => h.run xs hm (ne7 u)
  | 8, _, _, h => h.run xs hm (ne8 u)
  | 9, _, _, h => h.run xs hm (ne9 u)
  | 10, _, _, h => h.run xs hm (ne10 u)
  | 11, _, _, h => h.run xs hm (ne11 u)
  | 12, _, _, h => h.run xs hm (ne12 u)
  | 13, _, _, h => h.run xs hm (ne13 u)
  | 14, _, _, h => h.run xs hm (ne14 u)
  | 15, _, _, h => h.run xs hm (ne15 u)
  | 16, _, _, h => h.run xs hm (ne16 u)
  | 17, _, _, h => h.run xs hm (ne17 u)
  | 18, _, _, h => h.run xs hm (ne18 u)
  | 19, _, _, h => h.run xs hm (ne19 u)
  | 20, _, _, h => h.run xs hm (ne20 u)
  | 21, _, _, h => h.run xs hm (ne21 u)
  | 22, _, _, h => h.run xs hm (ne22 u)
  | 23, _, _, h => h.run xs hm (ne23 u)
  | 24, _, _, h => h.run xs hm (ne24 u)
  | 25, _, _, h => h.run xs hm (ne25 u)
  | 26, _, _, h => h.run xs hm (ne26 u)
  | 27, _, _, h => h.run xs hm (ne27 u)
  | 28, _, _, h => h.run xs hm (ne28 u)
  | 29, _, _, h => h.run xs hm (ne29 u)
  | 30, _, _, h => h.run xs hm (ne30 u)
  | 31, _, _, h => h.run xs hm (ne31 u)
  | 32, _, _, h => h.run xs hm (ne32 u)
  | 33, _, _, h => h.run xs hm (ne33 u)
  | 34, _, _, h => h.run xs hm (ne34 u)
  | 35, _, _, h => h.run xs hm (ne35 u)
  | 36, _, _, h => h.run xs hm (ne36 u)
  | 37, _, _, h => h.run xs hm (ne37 u)
  | 38, _, _, h => h.run xs hm (ne38 u)
  | 39, _, _, h => h.run xs hm (ne39 u)
  | 40, _, _, h => h.run xs hm (ne40 u)
  | 41, _, _, h => h.run xs hm (ne41 u)
  | 42, _, _, h => h.run xs hm (ne42 u)
  | 43, _, _, h => h.run xs hm (ne43 u)
  | 44, _, _, h => h.run xs hm (ne44 u)
  | 45, _, _, h => h.run xs hm (ne45 u)
  | 46, _, _, h => h.run xs hm (ne46 u)
  | 47, _, _, h => h.run xs hm (ne47 u)
  | 48, _, _, h => h.run xs hm (ne48 u)
  | 49, _, _, h => h.run xs hm (ne49 u)
  | 50, _, _, h => h.run xs hm (ne50 u)
  | 51, _, _, h => h.run xs hm (ne51 u)
  | 52, _, _, h => h.run xs hm (ne52 u)
  | 53, _, _, h => h.run xs hm (ne53 u)
  | 54, _, _, h => h.run xs hm (ne54 u)
  | 55, _, _, h => h.run xs hm (ne55 u)
  | 56, _, _, h => h.run xs hm (ne56 u)
  | 57, _, _, h => h.run xs hm (ne57 u)
  | 58, _, _, h => h.run xs hm (ne58 u)
  | 59, _, _, h => h.run xs hm (ne59 u)
  | c + 60, _, hc, _ => absurd hc (by omega)
theorem tox (h : From P X j 5 args w (dd 0)) : From P X j 5 args w tx :=
  have h := h.run xs hm rx1
  have h := h.run xs hm rx2
  have h := h.run xs hm rx3
  have h := h.run xs hm rx4
  have h := h.run xs hm rx5
  have h := h.run xs hm rx6
  have h := h.run xs hm rx7
  have h := h.run xs hm rx8
  h.run xs hm rtx
theorem toy (h : From P X j 5 args w (dd 1)) : From P X j 5 args w ty :=
  have h := h.run xs hm ry1
  have h := h.run xs hm ry2
  have h := h.run xs hm ry3
  have h := h.run xs hm ry4
  have h := h.run xs hm ry5
  have h := h.run xs hm ry6
  have h := h.run xs hm ry7
  have h := h.run xs hm ry8
  h.run xs hm rty
theorem top (h : From P X j 5 args w lp) : From P X j 5 args w tp :=
  have h := h.run xs hm rp1
  have h := h.run xs hm rp2
  have h := h.run xs hm rp3
  have h := h.run xs hm rp4
  have h := h.run xs hm rp5
  have h := h.run xs hm rp6
  have h := h.run xs hm rp7
  have h := h.run xs hm rp8
  h.run xs hm rtp
theorem toq (h : From P X j 5 args w lq) : From P X j 5 args w tq :=
  have h := h.run xs hm rq1
  have h := h.run xs hm rq2
  have h := h.run xs hm rq3
  have h := h.run xs hm rq4
  have h := h.run xs hm rq5
  have h := h.run xs hm rq6
  have h := h.run xs hm rq7
  have h := h.run xs hm rq8
  h.run xs hm rtq
theorem to2 (h : From P X j 5 args w lp) : From P X j 5 args w s2 := (top h).run xs hm rs2
theorem to3 (hj : 0 < j) (h : From P X j 5 args w lp) : From P X j 5 args w s3 := ((to2 h).cut (k := 0) (q := 7) (by omega)).run xs hm rs3
theorem to4 (hj : 1 < j) (h : From P X j 5 args w lp) : From P X j 5 args w s4 := ((to3 (by omega) h).cut (k := 1) (q := 7) (by omega)).run xs hm rs4
theorem to5 (hj : 2 < j) (h : From P X j 5 args w lp) : From P X j 5 args w s5 := ((to4 (by omega) h).cut (k := 2) (q := 7) (by omega)).run xs hm rs5
theorem to6 (hj : 3 < j) (h : From P X j 5 args w lp) : From P X j 5 args w s6 := ((to5 (by omega) h).cut (k := 3) (q := 7) (by omega)).run xs hm rs6
theorem to7 (hj : 4 < j) (h : From P X j 5 args w lp) : From P X j 5 args w s7 := ((to6 (by omega) h).cut (k := 4) (q := 7) (by omega)).run xs hm rs7
theorem to8 (hj : 5 < j) (h : From P X j 5 args w lp) : From P X j 5 args w s8 := ((to7 (by omega) h).cut (k := 5) (q := 7) (by omega)).run xs hm rs8
theorem to9 (hj : 6 < j) (h : From P X j 5 args w lp) : From P X j 5 args w s9 := ((to8 (by omega) h).cut (k := 6) (q := 7) (by omega)).run xs hm rs9
theorem to10 (h : From P X j 5 args w lq) : From P X j 5 args w s10 := ((toq h).run xs hm rsq).run xs hm rs10
theorem to11 (hj : 0 < j) (h : From P X j 5 args w lq) : From P X j 5 args w s11 := ((to10 h).cut (k := 0) (q := 49) (by omega)).run xs hm rs11
theorem to12 (hj : 1 < j) (h : From P X j 5 args w lq) : From P X j 5 args w s12 := ((to11 (by omega) h).cut (k := 1) (q := 49) (by omega)).run xs hm rs12
theorem to13 (hj : 2 < j) (h : From P X j 5 args w lq) : From P X j 5 args w s13 := ((to12 (by omega) h).cut (k := 2) (q := 49) (by omega)).run xs hm rs13
theorem to14 (hj : 3 < j) (h : From P X j 5 args w lq) : From P X j 5 args w s14 := ((to13 (by omega) h).cut (k := 3) (q := 49) (by omega)).run xs hm rs14
theorem to15 (hj : 4 < j) (h : From P X j 5 args w lq) : From P X j 5 args w s15 := ((to14 (by omega) h).cut (k := 4) (q := 49) (by omega)).run xs hm rs15
theorem to16 (hj : 5 < j) (h : From P X j 5 args w lq) : From P X j 5 args w s16 := ((to15 (by omega) h).cut (k := 5) (q := 49) (by omega)).run xs hm rs16
theorem to17 (hj : 6 < j) (h : From P X j 5 args w lq) : From P X j 5 args w s17 := ((to16 (by omega) h).cut (k := 6) (q := 49) (by omega)).run xs hm rs17
theorem to18 (hj : 7 < j) (h : From P X j 5 args w lq) : From P X j 5 args w s18 := ((to17 (by omega) h).cut (k := 7) (q := 49) (by omega)).run xs hm rs18
theorem to19 (hj : 8 < j) (h : From P X j 5 args w lq) : From P X j 5 args w s19 := ((to18 (by omega) h).cut (k := 8) (q := 49) (by omega)).run xs hm rs19
theorem to20 (hj : 9 < j) (h : From P X j 5 args w lq) : From P X j 5 args w s20 := ((to19 (by omega) h).cut (k := 9) (q := 49) (by omega)).run xs hm rs20
theorem to21 (hj : 10 < j) (h : From P X j 5 args w lq) : From P X j 5 args w s21 := ((to20 (by omega) h).cut (k := 10) (q := 49) (by omega)).run xs hm rs21
theorem to22 (hj : 11 < j) (h : From P X j 5 args w lq) : From P X j 5 args w s22 := ((to21 (by omega) h).cut (k := 11) (q := 49) (by omega)).run xs hm rs22
theorem to23 (hj : 12 < j) (h : From P X j 5 args w lq) : From P X j 5 args w s23 := ((to22 (by omega) h).cut (k := 12) (q := 49) (by omega)).run xs hm rs23
theorem to24 (hj : 13 < j) (h : From P X j 5 args w lq) : From P X j 5 args w s24 := ((to23 (by omega) h).cut (k := 13) (q := 49) (by omega)).run xs hm rs24
theorem to25 (hj : 14 < j) (h : From P X j 5 args w lq) : From P X j 5 args w s25 := ((to24 (by omega) h).cut (k := 14) (q := 49) (by omega)).run xs hm rs25
theorem to26 (hj : 15 < j) (h : From P X j 5 args w lq) : From P X j 5 args w s26 := ((to25 (by omega) h).cut (k := 15) (q := 49) (by omega)).run xs hm rs26
theorem to27 (hj : 16 < j) (h : From P X j 5 args w lq) : From P X j 5 args w s27 := ((to26 (by omega) h).cut (k := 16) (q := 49) (by omega)).run xs hm rs27
theorem to28 (hj : 17 < j) (h : From P X j 5 args w lq) : From P X j 5 args w s28 := ((to27 (by omega) h).cut (k := 17) (q := 49) (by omega)).run xs hm rs28
theorem to29 (hj : 18 < j) (h : From P X j 5 args w lq) : From P X j 5 args w s29 := ((to28 (by omega) h).cut (k := 18) (q := 49) (by omega)).run xs hm rs29
theorem to30 (hj : 19 < j) (h : From P X j 5 args w lq) : From P X j 5 args w s30 := ((to29 (by omega) h).cut (k := 19) (q := 49) (by omega)).run xs hm rs30
theorem to31 (hj : 20 < j) (h : From P X j 5 args w lq) : From P X j 5 args w s31 := ((to30 (by omega) h).cut (k := 20) (q := 49) (by omega)).run xs hm rs31
theorem fin : ∀ {c : Nat}, c < 60 → (∀ j, From P X j 5 args w (dd c)) → Calls P 5 args w (fun e w' => e = .returned (.bool true) ∧ RowKit.Below w.heap.size w w')
  | 0, _, h => (tox (h 0)).last xs hm finx
  | 1, _, h => (toy (h 0)).last xs hm finy
  | 2, _, h => ((((to2 ((h 0).env la2)).pick).go xs hm [12, 11, 7, 5, 3, 0]).pick).last xs hm en2
  | 3, _, h => ((((to3 (by omega) ((h 1).env la3)).pick).go xs hm [12, 11, 9, 8, 6, 3, 1]).pick).last xs hm en3
  | 4, _, h => ((((to4 (by omega) ((h 2).env la4)).pick).go xs hm [12, 11, 10, 8, 7, 6, 5, 3, 1, 0]).pick).last xs hm en4
  | 5, _, h => ((((to5 (by omega) ((h 3).env la5)).pick).go xs hm [13, 7, 3, 2]).pick).last xs hm en5
  | 6, _, h => ((((to6 (by omega) ((h 4).env la6)).pick).go xs hm [13, 9, 8, 5, 3, 2, 0]).pick).last xs hm en6
  | 7, _, h => ((((to7 (by omega) ((h 5).env la7)).pick).go xs hm [13, 10, 8, 7, 6, 3, 2, 1]).pick).last xs hm en7
  | 8, _, h => ((((to8 (by omega) ((h 6).env la8)).pick).go xs hm [13, 11, 6, 5, 3, 2, 1, 0]).pick).last xs hm en8
  | 9, _, h => ((((to9 (by omega) ((h 7).env la9)).pick).go xs hm [13, 11, 9, 8, 4]).pick).last xs hm en9
  | 10, _, h => ((((to10 ((h 0).env la10)).pick).go xs hm [13, 11, 10, 8, 7, 5, 4, 2, 1, 0]).pick).last xs hm en10
  | 11, _, h => ((((to11 (by omega) ((h 1).env la11)).pick).go xs hm [13, 12, 6, 4, 3]).pick).last xs hm en11
  | 12, _, h => ((((to12 (by omega) ((h 2).env la12)).pick).go xs hm [13, 12, 9, 7, 6, 5, 4, 3, 0]).pick).last xs hm en12
  | 13, _, h => ((((to13 (by omega) ((h 3).env la13)).pick).go xs hm [13, 12, 10, 8, 7, 4, 3, 1]).pick).last xs hm en13
  | 14, _, h => ((((to14 (by omega) ((h 4).env la14)).pick).go xs hm [13, 12, 11, 5, 4, 3, 1, 0]).pick).last xs hm en14
  | 15, _, h => ((((to15 (by omega) ((h 5).env la15)).pick).go xs hm [13, 12, 11, 9, 7, 6, 4, 3, 2]).pick).last xs hm en15
  | 16, _, h => ((((to16 (by omega) ((h 6).env la16)).pick).go xs hm [13, 12, 11, 10, 8, 6, 5, 4, 3, 2, 0]).pick).last xs hm en16
  | 17, _, h => ((((to17 (by omega) ((h 7).env la17)).pick).go xs hm [14, 4, 3, 2, 1]).pick).last xs hm en17
  | 18, _, h => ((((to18 (by omega) ((h 8).env la18)).pick).go xs hm [14, 9, 7, 5, 4, 3, 2, 1, 0]).pick).last xs hm en18
  | 19, _, h => ((((to19 (by omega) ((h 9).env la19)).pick).go xs hm [14, 10, 8, 6, 5]).pick).last xs hm en19
  | 20, _, h => ((((to20 (by omega) ((h 10).env la20)).pick).go xs hm [14, 11, 0]).pick).last xs hm en20
  | 21, _, h => ((((to21 (by omega) ((h 11).env la21)).pick).go xs hm [14, 11, 9, 7, 5, 1]).pick).last xs hm en21
  | 22, _, h => ((((to22 (by omega) ((h 12).env la22)).pick).go xs hm [14, 11, 10, 8, 6, 1, 0]).pick).last xs hm en22
  | 23, _, h => ((((to23 (by omega) ((h 13).env la23)).pick).go xs hm [14, 11, 10, 9, 8, 7, 6, 5, 2]).pick).last xs hm en23
  | 24, _, h => ((((to24 (by omega) ((h 14).env la24)).pick).go xs hm [14, 12, 9, 7, 2, 0]).pick).last xs hm en24
  | 25, _, h => ((((to25 (by omega) ((h 15).env la25)).pick).go xs hm [14, 12, 10, 8, 5, 2, 1]).pick).last xs hm en25
  | 26, _, h => ((((to26 (by omega) ((h 16).env la26)).pick).go xs hm [14, 12, 10, 9, 8, 7, 6, 2, 1, 0]).pick).last xs hm en26
  | 27, _, h => ((((to27 (by omega) ((h 17).env la27)).pick).go xs hm [14, 12, 11, 9, 6, 5, 3]).pick).last xs hm en27
  | 28, _, h => ((((to28 (by omega) ((h 18).env la28)).pick).go xs hm [14, 12, 11, 10, 8, 3, 0]).pick).last xs hm en28
  | 29, _, h => ((((to29 (by omega) ((h 19).env la29)).pick).go xs hm [14, 12, 11, 10, 9, 8, 7, 5, 3, 1]).pick).last xs hm en29
  | 30, _, h => ((((to30 (by omega) ((h 20).env la30)).pick).go xs hm [14, 13, 9, 6, 3, 1, 0]).pick).last xs hm en30
  | 31, _, h => ((((to31 (by omega) ((h 21).env la31)).pick).go xs hm [11, 7, 5, 3, 2]).pick).last xs hm en31
  | 32, _, h => ((((to31 (by omega) ((h 22).env la32)).pick).go xs hm [11, 8, 7, 5, 4, 3, 2, 1, 0]).pick).last xs hm en32
  | 33, _, h => ((((to31 (by omega) ((h 23).env la33)).pick).go xs hm [11, 9, 7, 6, 4, 1]).pick).last xs hm en33
  | 34, _, h => ((((to31 (by omega) ((h 24).env la34)).pick).go xs hm [11, 9, 8, 7, 6, 5, 2, 0]).pick).last xs hm en34
  | 35, _, h => ((((to31 (by omega) ((h 25).env la35)).pick).go xs hm [11, 10, 7, 6, 5, 4, 3]).pick).last xs hm en35
  | 36, _, h => ((((to31 (by omega) ((h 26).env la36)).pick).go xs hm [11, 10, 9, 3, 1, 0]).pick).last xs hm en36
  | 37, _, h => ((((to31 (by omega) ((h 27).env la37)).pick).go xs hm [11, 10, 9, 8, 4, 3, 2, 1]).pick).last xs hm en37
  | 38, _, h => ((((to31 (by omega) ((h 28).env la38)).pick).go xs hm [12, 5, 4, 0]).pick).last xs hm en38
  | 39, _, h => ((((to31 (by omega) ((h 29).env la39)).pick).go xs hm [12, 8, 6, 2]).pick).last xs hm en39
  | 40, _, h => ((((to31 (by omega) ((h 30).env la40)).pick).go xs hm [12, 9, 6, 4, 2, 1, 0]).pick).last xs hm en40
  | 41, _, h => ((((to31 (by omega) ((h 31).env la41)).pick).go xs hm [12, 9, 8, 6, 5, 3, 1]).pick).last xs hm en41
  | 42, _, h => ((((to31 (by omega) ((h 32).env la42)).pick).go xs hm [12, 10, 6, 5, 4, 3, 2, 0]).pick).last xs hm en42
  | 43, _, h => ((((to31 (by omega) ((h 33).env la43)).pick).go xs hm [12, 10, 8, 7, 4]).pick).last xs hm en43
  | 44, _, h => ((((to31 (by omega) ((h 34).env la44)).pick).go xs hm [12, 10, 9, 7, 5, 1, 0]).pick).last xs hm en44
  | 45, _, h => ((((to31 (by omega) ((h 35).env la45)).pick).go xs hm [12, 10, 9, 8, 7, 5, 4, 2, 1]).pick).last xs hm en45
  | 46, _, h => ((((to31 (by omega) ((h 36).env la46)).pick).go xs hm [12, 11, 7, 6, 3, 0]).pick).last xs hm en46
  | 47, _, h => ((((to31 (by omega) ((h 37).env la47)).pick).go xs hm [12, 11, 8, 7, 6, 4, 3, 2]).pick).last xs hm en47
  | 48, _, h => ((((to31 (by omega) ((h 38).env la48)).pick).go xs hm [12, 11, 9, 7, 6, 5, 3, 2, 1, 0]).pick).last xs hm en48
  | 49, _, h => ((((to31 (by omega) ((h 39).env la49)).pick).go xs hm [12, 11, 10, 1]).pick).last xs hm en49
  | 50, _, h => ((((to31 (by omega) ((h 40).env la50)).pick).go xs hm [12, 11, 10, 8, 4, 2, 0]).pick).last xs hm en50
  | 51, _, h => ((((to31 (by omega) ((h 41).env la51)).pick).go xs hm [12, 11, 10, 9, 5, 3]).pick).last xs hm en51
  | 52, _, h => ((((to31 (by omega) ((h 42).env la52)).pick).go xs hm [12, 11, 10, 9, 8, 5, 4, 3, 1, 0]).pick).last xs hm en52
  | 53, _, h => ((((to31 (by omega) ((h 43).env la53)).pick).go xs hm [13, 6, 3, 2, 1]).pick).last xs hm en53
  | 54, _, h => ((((to31 (by omega) ((h 44).env la54)).pick).go xs hm [13, 8, 6, 5, 0]).pick).last xs hm en54
  | 55, _, h => ((((to31 (by omega) ((h 45).env la55)).pick).go xs hm [13, 9, 6, 5, 4, 2]).pick).last xs hm en55
  | 56, _, h => ((((to31 (by omega) ((h 46).env la56)).pick).go xs hm [13, 9, 8, 7, 2, 1, 0]).pick).last xs hm en56
  | 57, _, h => ((((to31 (by omega) ((h 47).env la57)).pick).go xs hm [13, 10, 7, 4, 3, 1]).pick).last xs hm en57
  | 58, _, h => ((((to31 (by omega) ((h 48).env la58)).pick).go xs hm [13, 10, 8, 7, 5, 3, 2, 0]).pick).last xs hm en58
  | 59, _, h => ((((to31 (by omega) ((h 49).env la59)).pick).go xs hm [13, 10, 9, 7, 6]).pick).last xs hm en59
  | c + 60, hc, _ => absurd hc (by omega)
theorem deep {z : Int} (hs : ∀ j, From P X j 5 args w (s0 (uOf .i64 z))) : Calls P 5 args w (fun e w' => e = .returned (.bool true) ∧ RowKit.Below w.heap.size w w') := by
  have key : ∃ c, c < 60 ∧ ∀ j, From P X j 5 args w (dd c) := by
    obtain ⟨c, hc, h⟩ := rem60 (uOf .i64 z) (uOf64_lt z)
    rcases h with h | ⟨h0, h⟩
    · refine ⟨c, hc, fun j => ?_⟩
      have h1 := ((hs j).run xs hm (ka _)).one xs hm (kcb _ _ rfl) (by rw [h]; rfl)
      rw [h] at h1
      exact posd hc h1
    · refine ⟨60 - c, by omega, fun j => ?_⟩
      have h1 := ((hs j).run xs hm (ka _)).one xs hm (kcb _ _ rfl) (by rw [h]; rfl)
      rw [h] at h1
      exact negd h0 hc h1
  obtain ⟨c, hc, h⟩ := key
  exact fin hc h
theorem started {A B : List AV} {z : Int} (hz : inR .i64 z) (hA : LaidR w j 0 2 46 A) (hB : LaidR w j 1 16 16 B) (hs0 : startH 520 2 46 (pushB (grpL 2 46 A) 0 .e) 567 16 16 (pushB (grpL 16 16 B) 0 .e) (psN 30) = mkH [(0,o2),(1,o3)] 30 1) :
    From P X j 5 #[.int .i64 z] w (s0 (uOf .i64 z)) := by
  have h := HR.start (P := P) hA hB (tA := 520) (tB := 567) (nx := psN 30) (by decide)
  rw [hs0] at h
  exact From.start h.1 h.2 (.cons (VR.i64 hz) .nil)
end KT
