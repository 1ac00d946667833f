/- The reference's Get, where a byte ends a number. -/
import Derived.Test.YtefiliomfiomfaaRGet
namespace Go.Proofs.Ytefiliomfiomfaa
open Go.RowKit

theorem val_drop (T : List UInt8) (m : Nat) (h : m < T.length) (y : UInt8) (hy : T[m] = y) :
    IntKind.u64.wrap (IntKind.u64.wrap (((val (T.drop (m + 1)) % 18446744073709551616 : Nat) : Int) * 128) + (y.toNat : Int) % 128) = ((val (T.drop m) % 18446744073709551616 : Nat) : Int) := by
  rw [List.drop_eq_getElem_cons h, hy, IntKind.wrap_u64, IntKind.wrap_u64]
  show _ = (((y.toNat % 128 + 128 * val (T.drop (m + 1))) % 18446744073709551616 : Nat) : Int)
  generalize val (T.drop (m + 1)) = V
  omega
theorem unz_even {U : Nat} (h : U % 2 = 0) : unz U = (U : Int) / 2 := by unfold unz; rw [if_pos h]; omega
theorem unz_odd {U : Nat} (h : ¬ U % 2 = 0) : unz U = -((U : Int) / 2) - 1 := by unfold unz; rw [if_neg h]; omega

set_option maxRecDepth 100000 in
set_option maxHeartbeats 2000000 in
theorem get25_even (B o c p : Nat) (b : List UInt8) (w : World) (hB : B < w.heap.size) (hbc : b.length ≤ c) (hcs : ∀ i (h : i < b.length), w.cell? ⟨B, o + i, none⟩ = some (bv (b[i]'h))) (hbig : b.length ≤ 140737488355328)
    (K : Nat) (hK10 : K < 10) (hKl : p + K < b.length) (hall : ∀ q (h : q < b.length), p ≤ q → q < p + K → 128 ≤ (b[q]'h).toNat) (hend : (b[p + K]'hKl).toNat < 128)
    (T : List UInt8) (hT : T = (b.drop p).take (K + 1)) (U1 : Nat) (hU1 : U1 = val T % 18446744073709551616) (hpar : U1 % 2 = 0) (R : Int × Int × Int) (hR : R = getT U1 T p K) :
    Calls Try.prog 25 #[.slice (some ⟨B, o, none⟩) b.length c, .int .i64 (p : Int)] w fun e w' => e = .returned (tup R) ∧ Below w.heap.size w w' := by
  have hrd : Rd w (.slice (some ⟨B, o, none⟩) b.length c) b := ⟨_, c, rfl, hbc, (fun h => by cases h), fun _ => ⟨B, o, rfl, hB, hcs⟩⟩
  obtain ⟨a', hsl, hcut⟩ := Rd.cut p (p + K + 1) (by omega) (by omega) hrd
  have hTl : T.length = K + 1 := by rw [hT, List.length_take, List.length_drop]; omega
  have hTm : ∀ m (h : m < T.length) (h' : p + m < b.length), T[m] = b[p + m] := by
    intro m h h'
    subst hT
    rw [List.getElem_take, List.getElem_drop]
  have hT2 : (b.drop p).take (p + K + 1 - p) = T := by rw [hT]; congr 1; omega
  rw [hT2] at hcut
  have hU1b : U1 < 18446744073709551616 := by rw [hU1]; exact Nat.mod_lt _ (by decide)
  have hrng := unz_rng U1 hU1b
  have hput := fun w => put19 (.slice none 0 0) [] (unz U1) w (Own.nil w 0).rd hrng.1 hrng.2 (by rw [List.length_nil]; omega)
  rw [zig_unz, unz_even hpar, List.nil_append] at hput
  have HUN := Lib.hid (unz_even hpar)
  have htx := fun w (h : Rd w (.slice a' (p + K + 1 - p) (c - p)) T) => Rd.text h
  have hp1 : ((U1 : Int) % 2 == 1) = false := by rw [beq_eq_false_iff_ne]; omega
  obtain ⟨kk, hkk⟩ : ∃ kk, kk = p + K := ⟨_, rfl⟩
  have e1 : ((p + K + 1 : Nat) : Int) = (kk : Int) + 1 := by omega
  rw [e1] at hsl
  have HCELL := Lib.hid hcs
  have HALL := Lib.hid hall
  have HRR := Lib.hid hR
  have HEND := Lib.hid hend
  have HTL := Lib.hid hTl
  have HTM := Lib.hid hTm
  have HU1 := Lib.hid hU1
  have HPUT := Lib.hid hput
  have HTX := Lib.hid htx
  have HCUT := Lib.hid hcut
  have HSL := Lib.hid hsl
  clear hcs hall hR hend hTl hTm hU1 hput htx hcut hsl hrd hT hT2 e1 hpar hrng
  go_enter Try.func25, Try.ntmps25
  go_wp2
  go_loop [7] (fun i => ∃ (q : Nat), p ≤ q ∧ q ≤ p + K ∧ i = .int .i64 (q : Int)) (fun i => b.length - (intOf i).toNat)
  case atStart => exact ⟨p, by omega, by omega, rfl⟩
  case round =>
    obtain ⟨q, hq, hq2, rfl⟩ := hrel
    have hql : q < b.length := by omega
    have hcell := HCELL.out q hql
    have h10 : (q : Int) - (p : Int) < 10 := by omega
    by_cases hlt : q < p + K
    · have hy := HALL.out q hql hq hlt
      generalize b[q] = y at hcell hy
      unfold bv at hcell
      have hy' : (128 : Int) ≤ (y.toNat : Int) := by omega
      clear hy
      go_wp2
      go_round
      case rel => exact ⟨q + 1, by omega, by omega, by go_num⟩
      case measure => simp [intOf]; omega
    · have hqe : q = p + K := by omega
      have hy : (b[q]).toNat < 128 := by have := HEND.out; subst hqe; exact this
      have hk2 : kk = q := by omega
      have HKK : Hid ((p : Int) + (K : Int) = (kk : Int)) := by show _ = _; omega
      clear hqe hkk
      subst hk2
      generalize b[kk] = y at hcell hy
      unfold bv at hcell
      have hy' : (y.toNat : Int) < 128 := by omega
      clear hy
      go_wp2
      clear hcell hy'
      go_loop [8, 9] (fun u i => ∃ (j : Nat), j ≤ K + 1 ∧ i = .int .i64 ((p : Int) + (j : Int) - 1) ∧ u = .int .u64 ((val (T.drop j) % 18446744073709551616 : Nat) : Int)) (fun _ i => (intOf i + 1).toNat)
      case atStart =>
        refine ⟨K + 1, by omega, ?_, ?_⟩
        · congr 1; omega
        · rw [List.drop_eq_nil_of_le (by rw [HTL.out]; exact Nat.le_refl _)]; rfl
      case round =>
        obtain ⟨j, hj, rfl, rfl⟩ := hrel
        cases j with
        | succ m =>
          obtain ⟨q2, hq2'⟩ : ∃ q2, q2 = p + m := ⟨_, rfl⟩
          have e : (p : Int) + ((m + 1 : Nat) : Int) - 1 = (q2 : Int) := by omega
          rw [e]
          have hv := val_drop T m (by rw [HTL.out]; omega) _ rfl
          rw [HTM.out m (by rw [HTL.out]; omega) (by omega)] at hv
          have hq3 : q2 < b.length := by omega
          have hq4 : p ≤ q2 := by omega
          have hcell := HCELL.out q2 hq3
          have hv' : IntKind.u64.wrap (IntKind.u64.wrap (((val (T.drop (m + 1)) % 18446744073709551616 : Nat) : Int) * 128) + ((b[q2]).toNat : Int) % 128) = ((val (T.drop m) % 18446744073709551616 : Nat) : Int) := by
            subst hq2'
            exact hv
          generalize b[q2] = y at hcell hv'
          unfold bv at hcell
          have HV := Lib.hid hv'
          have HQ := Lib.hid hq2'
          clear e hv hv' hq2'
          generalize val (T.drop (m + 1)) % 18446744073709551616 = V at *
          go_wp2
          go_round
          case rel =>
            refine ⟨m, by omega, ?_, ?_⟩
            rotate_left
            · first | exact congrArg _ HV.out | (rw [HV.out]; done) | (simp only [HV.out]; done)
            have hz : (q2 : Int) - 1 = (p : Int) + (m : Int) - 1 := by rw [HQ.out]; omega
            rw [hz]
          case measure => simp [intOf]
        | zero =>
          rw [List.drop_zero, ← HU1.out]
          have e : (p : Int) + ((0 : Nat) : Int) - 1 = (p : Int) - 1 := by omega
          rw [e]
          clear e
          go_wp2
          have hsl := HSL.out
          have hw1 : IntKind.i64.wrap ((kk : Int) + 1) = (kk : Int) + 1 := by rw [IntKind.wrap_i64]; omega
          have hc0 := HTX.out w.drew (HCUT.out.below (Below.refl _ _).drew)
          by_cases hEQ : enc U1 = T
          · have hne : ((sB (enc U1)).toList != (sB T).toList) = false := by rw [sB_ne, beq_iff_eq.2 hEQ]; rfl
            have hne2 : ((sB (enc U1)).toList == (sB T).toList) = true := by rw [sB_eq, beq_iff_eq.2 hEQ]
            have hg2 : R = (unz U1, (p : Int) + (K : Int) + 1, 0) := by rw [HRR.out]; unfold getT; rw [if_pos hEQ]
            have HG2 := Lib.hid hg2
            clear hg2 hEQ
            go_region_with (go_at_call 19; refine (HPUT.out _).mono ?_; rintro e w1 ⟨v', rfl, ho, hb⟩; have hc1 := ho.rd.text; have hc2 := HTX.out w1 (HCUT.out.below (Below.trans (Below.refl _ _).drew hb)); have HO := Lib.hid ho; have HBB := Lib.hid hb; clear ho hb)
            all_goals
              go_wp2
              go_ret3
              refine ⟨?_, Below.trans (Below.refl _ _).drew HBB.out⟩
              rw [HG2.out, HUN.out, HKK.out]
              rfl
          · have hne : ((sB (enc U1)).toList != (sB T).toList) = true := by rw [sB_ne, beq_eq_false_iff_ne.2 hEQ]; rfl
            have hne2 : ((sB (enc U1)).toList == (sB T).toList) = false := by rw [sB_eq, beq_eq_false_iff_ne.2 hEQ]
            have hg2 : R = (0, 0, 5) := by rw [HRR.out]; unfold getT; rw [if_neg hEQ]
            have HG2 := Lib.hid hg2
            clear hg2 hEQ
            go_region_with (go_at_call 19; refine (HPUT.out _).mono ?_; rintro e w1 ⟨v', rfl, ho, hb⟩; have hc1 := ho.rd.text; have hc2 := HTX.out w1 (HCUT.out.below (Below.trans (Below.refl _ _).drew hb)); have HO := Lib.hid ho; have HBB := Lib.hid hb; clear ho hb)
            all_goals
              go_wp2
              go_ret3
              refine ⟨?_, Below.trans (Below.refl _ _).drew HBB.out⟩
              rw [HG2.out]
              rfl
set_option maxRecDepth 100000 in
set_option maxHeartbeats 2000000 in
theorem get25_odd (B o c p : Nat) (b : List UInt8) (w : World) (hB : B < w.heap.size) (hbc : b.length ≤ c) (hcs : ∀ i (h : i < b.length), w.cell? ⟨B, o + i, none⟩ = some (bv (b[i]'h))) (hbig : b.length ≤ 140737488355328)
    (K : Nat) (hK10 : K < 10) (hKl : p + K < b.length) (hall : ∀ q (h : q < b.length), p ≤ q → q < p + K → 128 ≤ (b[q]'h).toNat) (hend : (b[p + K]'hKl).toNat < 128)
    (T : List UInt8) (hT : T = (b.drop p).take (K + 1)) (U1 : Nat) (hU1 : U1 = val T % 18446744073709551616) (hpar : ¬ U1 % 2 = 0) (R : Int × Int × Int) (hR : R = getT U1 T p K) :
    Calls Try.prog 25 #[.slice (some ⟨B, o, none⟩) b.length c, .int .i64 (p : Int)] w fun e w' => e = .returned (tup R) ∧ Below w.heap.size w w' := by
  have hrd : Rd w (.slice (some ⟨B, o, none⟩) b.length c) b := ⟨_, c, rfl, hbc, (fun h => by cases h), fun _ => ⟨B, o, rfl, hB, hcs⟩⟩
  obtain ⟨a', hsl, hcut⟩ := Rd.cut p (p + K + 1) (by omega) (by omega) hrd
  have hTl : T.length = K + 1 := by rw [hT, List.length_take, List.length_drop]; omega
  have hTm : ∀ m (h : m < T.length) (h' : p + m < b.length), T[m] = b[p + m] := by
    intro m h h'
    subst hT
    rw [List.getElem_take, List.getElem_drop]
  have hT2 : (b.drop p).take (p + K + 1 - p) = T := by rw [hT]; congr 1; omega
  rw [hT2] at hcut
  have hU1b : U1 < 18446744073709551616 := by rw [hU1]; exact Nat.mod_lt _ (by decide)
  have hrng := unz_rng U1 hU1b
  have hput := fun w => put19 (.slice none 0 0) [] (unz U1) w (Own.nil w 0).rd hrng.1 hrng.2 (by rw [List.length_nil]; omega)
  rw [zig_unz, unz_odd hpar, List.nil_append] at hput
  have HUN := Lib.hid (unz_odd hpar)
  have htx := fun w (h : Rd w (.slice a' (p + K + 1 - p) (c - p)) T) => Rd.text h
  have hp1 : ((U1 : Int) % 2 == 1) = true := by rw [beq_iff_eq]; omega
  obtain ⟨kk, hkk⟩ : ∃ kk, kk = p + K := ⟨_, rfl⟩
  have e1 : ((p + K + 1 : Nat) : Int) = (kk : Int) + 1 := by omega
  rw [e1] at hsl
  have HCELL := Lib.hid hcs
  have HALL := Lib.hid hall
  have HRR := Lib.hid hR
  have HEND := Lib.hid hend
  have HTL := Lib.hid hTl
  have HTM := Lib.hid hTm
  have HU1 := Lib.hid hU1
  have HPUT := Lib.hid hput
  have HTX := Lib.hid htx
  have HCUT := Lib.hid hcut
  have HSL := Lib.hid hsl
  clear hcs hall hR hend hTl hTm hU1 hput htx hcut hsl hrd hT hT2 e1 hpar hrng
  go_enter Try.func25, Try.ntmps25
  go_wp2
  go_loop [7] (fun i => ∃ (q : Nat), p ≤ q ∧ q ≤ p + K ∧ i = .int .i64 (q : Int)) (fun i => b.length - (intOf i).toNat)
  case atStart => exact ⟨p, by omega, by omega, rfl⟩
  case round =>
    obtain ⟨q, hq, hq2, rfl⟩ := hrel
    have hql : q < b.length := by omega
    have hcell := HCELL.out q hql
    have h10 : (q : Int) - (p : Int) < 10 := by omega
    by_cases hlt : q < p + K
    · have hy := HALL.out q hql hq hlt
      generalize b[q] = y at hcell hy
      unfold bv at hcell
      have hy' : (128 : Int) ≤ (y.toNat : Int) := by omega
      clear hy
      go_wp2
      go_round
      case rel => exact ⟨q + 1, by omega, by omega, by go_num⟩
      case measure => simp [intOf]; omega
    · have hqe : q = p + K := by omega
      have hy : (b[q]).toNat < 128 := by have := HEND.out; subst hqe; exact this
      have hk2 : kk = q := by omega
      have HKK : Hid ((p : Int) + (K : Int) = (kk : Int)) := by show _ = _; omega
      clear hqe hkk
      subst hk2
      generalize b[kk] = y at hcell hy
      unfold bv at hcell
      have hy' : (y.toNat : Int) < 128 := by omega
      clear hy
      go_wp2
      clear hcell hy'
      go_loop [8, 9] (fun u i => ∃ (j : Nat), j ≤ K + 1 ∧ i = .int .i64 ((p : Int) + (j : Int) - 1) ∧ u = .int .u64 ((val (T.drop j) % 18446744073709551616 : Nat) : Int)) (fun _ i => (intOf i + 1).toNat)
      case atStart =>
        refine ⟨K + 1, by omega, ?_, ?_⟩
        · congr 1; omega
        · rw [List.drop_eq_nil_of_le (by rw [HTL.out]; exact Nat.le_refl _)]; rfl
      case round =>
        obtain ⟨j, hj, rfl, rfl⟩ := hrel
        cases j with
        | succ m =>
          obtain ⟨q2, hq2'⟩ : ∃ q2, q2 = p + m := ⟨_, rfl⟩
          have e : (p : Int) + ((m + 1 : Nat) : Int) - 1 = (q2 : Int) := by omega
          rw [e]
          have hv := val_drop T m (by rw [HTL.out]; omega) _ rfl
          rw [HTM.out m (by rw [HTL.out]; omega) (by omega)] at hv
          have hq3 : q2 < b.length := by omega
          have hq4 : p ≤ q2 := by omega
          have hcell := HCELL.out q2 hq3
          have hv' : IntKind.u64.wrap (IntKind.u64.wrap (((val (T.drop (m + 1)) % 18446744073709551616 : Nat) : Int) * 128) + ((b[q2]).toNat : Int) % 128) = ((val (T.drop m) % 18446744073709551616 : Nat) : Int) := by
            subst hq2'
            exact hv
          generalize b[q2] = y at hcell hv'
          unfold bv at hcell
          have HV := Lib.hid hv'
          have HQ := Lib.hid hq2'
          clear e hv hv' hq2'
          generalize val (T.drop (m + 1)) % 18446744073709551616 = V at *
          go_wp2
          go_round
          case rel =>
            refine ⟨m, by omega, ?_, ?_⟩
            rotate_left
            · first | exact congrArg _ HV.out | (rw [HV.out]; done) | (simp only [HV.out]; done)
            have hz : (q2 : Int) - 1 = (p : Int) + (m : Int) - 1 := by rw [HQ.out]; omega
            rw [hz]
          case measure => simp [intOf]
        | zero =>
          rw [List.drop_zero, ← HU1.out]
          have e : (p : Int) + ((0 : Nat) : Int) - 1 = (p : Int) - 1 := by omega
          rw [e]
          clear e
          go_wp2
          have hsl := HSL.out
          have hw1 : IntKind.i64.wrap ((kk : Int) + 1) = (kk : Int) + 1 := by rw [IntKind.wrap_i64]; omega
          have hc0 := HTX.out w.drew (HCUT.out.below (Below.refl _ _).drew)
          by_cases hEQ : enc U1 = T
          · have hne : ((sB (enc U1)).toList != (sB T).toList) = false := by rw [sB_ne, beq_iff_eq.2 hEQ]; rfl
            have hne2 : ((sB (enc U1)).toList == (sB T).toList) = true := by rw [sB_eq, beq_iff_eq.2 hEQ]
            have hg2 : R = (unz U1, (p : Int) + (K : Int) + 1, 0) := by rw [HRR.out]; unfold getT; rw [if_pos hEQ]
            have HG2 := Lib.hid hg2
            clear hg2 hEQ
            go_region_with (go_at_call 19; refine (HPUT.out _).mono ?_; rintro e w1 ⟨v', rfl, ho, hb⟩; have hc1 := ho.rd.text; have hc2 := HTX.out w1 (HCUT.out.below (Below.trans (Below.refl _ _).drew hb)); have HO := Lib.hid ho; have HBB := Lib.hid hb; clear ho hb)
            all_goals
              go_wp2
              go_ret3
              refine ⟨?_, Below.trans (Below.refl _ _).drew HBB.out⟩
              rw [HG2.out, HUN.out, HKK.out]
              rfl
          · have hne : ((sB (enc U1)).toList != (sB T).toList) = true := by rw [sB_ne, beq_eq_false_iff_ne.2 hEQ]; rfl
            have hne2 : ((sB (enc U1)).toList == (sB T).toList) = false := by rw [sB_eq, beq_eq_false_iff_ne.2 hEQ]
            have hg2 : R = (0, 0, 5) := by rw [HRR.out]; unfold getT; rw [if_neg hEQ]
            have HG2 := Lib.hid hg2
            clear hg2 hEQ
            go_region_with (go_at_call 19; refine (HPUT.out _).mono ?_; rintro e w1 ⟨v', rfl, ho, hb⟩; have hc1 := ho.rd.text; have hc2 := HTX.out w1 (HCUT.out.below (Below.trans (Below.refl _ _).drew hb)); have HO := Lib.hid ho; have HBB := Lib.hid hb; clear ho hb)
            all_goals
              go_wp2
              go_ret3
              refine ⟨?_, Below.trans (Below.refl _ _).drew HBB.out⟩
              rw [HG2.out]
              rfl

/-- The reference's Get. -/
theorem get25 (v : Value) (b : List UInt8) (p : Int) (w : World) (hv : Rd w v b) (hbig : b.length ≤ 140737488355328) :
    Calls Try.prog 25 #[v, .int .i64 p] w fun e w' => e = .returned (tup (getF b p)) ∧ Below w.heap.size w w' := by
  unfold getF
  by_cases h1 : p < 0
  · rw [if_pos (.inl h1)]
    exact get25_low v p w h1
  by_cases h2 : (b.length : Int) < p
  · rw [if_pos (.inr h2)]
    obtain ⟨a, c, rfl, _⟩ := id hv
    exact get25_high a _ c p w (by omega) h2
  rw [if_neg (by omega)]
  obtain ⟨q, rfl⟩ : ∃ q : Nat, p = q := ⟨p.toNat, by omega⟩
  rw [Int.toNat_natCast]
  obtain ⟨a, c, rfl, hbc, _, hcells⟩ := id hv
  have hle := endAt_le (b.drop q)
  have hdl : (b.drop q).length = b.length - q := List.length_drop
  by_cases h3 : q = b.length
  · have e : getL (b.drop q) q = (0, 0, 4) := by
      unfold getL
      rw [if_neg (by omega), if_pos (by omega)]
    rw [e, h3]
    exact get25_none a b.length c w
  have hne : b ≠ [] := by intro e; subst e; simp at h3 h2; omega
  obtain ⟨B, o, rfl, hB, hcs⟩ := hcells hne
  have hlong : ∀ M, M ≤ endAt (b.drop q) → ∀ x (h : x < b.length), q ≤ x → x < q + M → 128 ≤ (b[x]'h).toNat := by
    intro M hM x hx h1 h2
    have := endAt_lt (l := b.drop q) (j := x - q) (by omega) (by omega)
    rw [List.getElem_drop] at this
    have e : q + (x - q) = x := by omega
    simp only [e] at this
    exact this
  unfold getL
  by_cases h10 : 10 ≤ endAt (b.drop q)
  · rw [if_pos h10]
    exact get25_long B o c q b w hcs (by omega) hbig 10 (by omega) (by omega) (.inl rfl) (hlong 10 h10) _ (by simp)
  rw [if_neg h10]
  by_cases hl : (b.drop q).length ≤ endAt (b.drop q)
  · rw [if_pos hl]
    exact get25_long B o c q b w hcs (by omega) hbig (endAt (b.drop q)) (by omega) (by omega) (.inr (by omega)) (hlong _ (Nat.le_refl _)) _ (by rw [if_neg (by omega)])
  rw [if_neg hl]
  have hend : (b[q + endAt (b.drop q)]'(by omega)).toNat < 128 := by
    have := endAt_is (l := b.drop q) (by omega)
    rw [List.getElem_drop] at this
    exact this
  by_cases hpar : (val ((b.drop q).take (endAt (b.drop q) + 1)) % 18446744073709551616) % 2 = 0
  · exact get25_even B o c q b w hB hbc hcs hbig (endAt (b.drop q)) (by omega) (by omega) (hlong _ (Nat.le_refl _)) hend _ rfl _ rfl hpar _ rfl
  · exact get25_odd B o c q b w hB hbc hcs hbig (endAt (b.drop q)) (by omega) (by omega) (hlong _ (Nat.le_refl _)) hend _ rfl _ rfl hpar _ rfl
end Go.Proofs.Ytefiliomfiomfaa
