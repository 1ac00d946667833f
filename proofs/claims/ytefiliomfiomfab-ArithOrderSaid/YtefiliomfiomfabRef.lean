/- The reference's Text, Read and Show, and arith's Show. -/
import Derived.Test.YtefiliomfiomfabRead
namespace Go.Proofs.Ytefiliomfiomfab
open Go.RowKit

theorem dec_len (n : Nat) : ∀ k, n < 10 ^ (k + 1) → (dec n).length ≤ k + 1 := by
  induction n using Nat.strongRecOn with
  | ind n ih =>
    intro k hk
    by_cases h : n < 10
    · rw [dec_small h]; simp
    · rw [dec_big h]
      cases k with
      | zero => omega
      | succ k =>
        have := ih (n / 10) (by omega) k (by rw [Nat.pow_succ] at hk; omega)
        simp; omega
theorem lit_dig (n : Nat) (h : n < 10) : (⟨#[48, 49, 50, 51, 52, 53, 54, 55, 56, 57]⟩ : ByteArray).extract n (n + 1) = txtB (n : Int) := by
  have e : txt (n : Int) = [48 + UInt8.ofNat n] := by
    unfold txt
    rw [if_neg (by omega), Int.natAbs_natCast, dec_small h]
  unfold txtB
  rw [e]
  match n, h with
  | 0, _ => rfl
  | 1, _ => rfl
  | 2, _ => rfl
  | 3, _ => rfl
  | 4, _ => rfl
  | 5, _ => rfl
  | 6, _ => rfl
  | 7, _ => rfl
  | 8, _ => rfl
  | 9, _ => rfl
theorem txtB_nat (n : Nat) : txtB (n : Int) = ⟨(dec n).toArray⟩ := by
  unfold txtB txt
  rw [if_neg (by omega), Int.natAbs_natCast]
theorem txtB_add (n : Nat) (h : ¬ n < 10) : txtB ((n / 10 : Nat) : Int) ++ txtB ((n % 10 : Nat) : Int) = txtB (n : Int) := by
  rw [txtB_nat, txtB_nat, txtB_nat, dec_big h, dec_small (n := n % 10) (by omega)]
  apply ByteArray.ext
  simp
theorem txtB_size (n : Nat) (h : n ≤ 9223372036854775808) : (txtB (n : Int)).size ≤ 20 := by
  rw [txtB_nat, Lib.size_eq]
  have := dec_len n 19 (by omega)
  simpa using this

set_option maxHeartbeats 1000000 in
theorem text13_nat (n : Nat) : ∀ (w : World), n ≤ 9223372036854775807 → Calls Try.prog 13 #[.int .i64 (n : Int)] w fun e w' =>
    e = .returned (.string (txtB (n : Int))) ∧ w = w' := by
  induction n using Nat.strongRecOn with
  | ind n ih =>
    intro w hn
    have g1 : ((n : Int) == -9223372036854775808) = false := by rw [beq_eq_false_iff_ne]; omega
    have g2 : decide ((n : Int) < 0) = false := by rw [decide_eq_false_iff_not]; omega
    by_cases h : n < 10
    · have g3 : decide ((n : Int) < 10) = true := by rw [decide_eq_true_iff]; omega
      have hl := lit_dig n h
      have HL := Lib.hid hl
      clear hl ih
      go_enter Try.func13, Try.ntmps13
      go_wp2
      go_ret
      exact ⟨(by rw [← HL.out]; rfl), rfl⟩
    · have g3 : decide ((n : Int) < 10) = false := by rw [decide_eq_false_iff_not]; omega
      have h1 := ih (n / 10) (by omega)
      have h2 := ih (n % 10) (by omega)
      have z1 := txtB_size (n / 10) (by omega)
      have z2 := txtB_size (n % 10) (by omega)
      have ha := txtB_add n h
      have H1 := Lib.hid h1
      have H2 := Lib.hid h2
      have HA := Lib.hid ha
      clear h1 h2 ha ih
      generalize txtB ((n / 10 : Nat) : Int) = x at *
      generalize txtB ((n % 10 : Nat) : Int) = y at *
      go_enter Try.func13, Try.ntmps13
      go_wp2_with fail
      refine (H1.out _ (by omega)).mono ?_
      rintro e w' ⟨rfl, rfl⟩
      go_wp2_with fail
      refine (H2.out _ (by omega)).mono ?_
      rintro e w' ⟨rfl, rfl⟩
      go_wp2_with fail
      go_ret
      exact ⟨(by rw [← HA.out]; rfl), rfl⟩

theorem txtB_neg (n : Nat) (h : 0 < n) : (⟨#[45]⟩ : ByteArray) ++ txtB (n : Int) = txtB (-(n : Int)) := by
  rw [txtB_nat]
  unfold txtB txt
  rw [if_pos (by omega), Int.natAbs_neg, Int.natAbs_natCast]
  apply ByteArray.ext
  simp
set_option maxRecDepth 100000 in
theorem txtB_least : txtB (-9223372036854775808) = ⟨#[45, 57, 50, 50, 51, 51, 55, 50, 48, 51, 54, 56, 53, 52, 55, 55, 53, 56, 48, 56]⟩ := by
  have e : txt (-9223372036854775808) = [45, 57, 50, 50, 51, 51, 55, 50, 48, 51, 54, 56, 53, 52, 55, 55, 53, 56, 48, 56] := by
    unfold txt
    rw [if_pos (by omega)]
    show 45 :: dec 9223372036854775808 = _
    repeat (rw [dec_big (by omega)]; simp only [Nat.reduceDiv, Nat.reduceMod])
    rw [dec_small (by omega)]
    rfl
  unfold txtB
  rw [e]
set_option maxHeartbeats 1000000 in
theorem text13 (n : Int) (w : World) (hlo : -9223372036854775808 ≤ n) (hhi : n ≤ 9223372036854775807) : Calls Try.prog 13 #[.int .i64 n] w fun e w' =>
    e = .returned (.string (txtB n)) ∧ w = w' := by
  by_cases h0 : 0 ≤ n
  · obtain ⟨m, rfl⟩ : ∃ m : Nat, n = m := ⟨n.toNat, by omega⟩
    exact text13_nat m w (by omega)
  by_cases h1 : n = -9223372036854775808
  · have hl : txtB n = ⟨#[45, 57, 50, 50, 51, 51, 55, 50, 48, 51, 54, 56, 53, 52, 55, 55, 53, 56, 48, 56]⟩ := by rw [h1]; exact txtB_least
    have HL := Lib.hid hl
    have g1 : (n == -9223372036854775808) = true := by rw [beq_iff_eq]; exact h1
    clear h1 h0 hlo hhi hl
    go_enter Try.func13, Try.ntmps13
    go_wp2_with fail
    go_ret
    exact ⟨(by rw [HL.out]; rfl), rfl⟩
  · have g1 : (n == -9223372036854775808) = false := by rw [beq_eq_false_iff_ne]; exact h1
    obtain ⟨m, hm⟩ : ∃ m : Nat, -n = m := ⟨(-n).toNat, by omega⟩
    have hc := fun w => text13_nat m w (by omega)
    rw [← hm] at hc
    have ha := txtB_neg m (by omega)
    rw [← hm, Int.neg_neg] at ha
    have z := txtB_size m (by omega)
    rw [← hm] at z
    have HC := Lib.hid hc
    have HA := Lib.hid ha
    have h2 : n < 0 := by omega
    have h3 : -9223372036854775807 ≤ n := by omega
    clear hc ha hm h1 h0 hlo
    generalize txtB (-n) = x at *
    go_enter Try.func13, Try.ntmps13
    go_wp2_with fail
    refine (HC.out _).mono ?_
    rintro e w' ⟨rfl, rfl⟩
    go_wp2_with fail
    go_ret
    exact ⟨(by rw [← HA.out]; rfl), rfl⟩

def showB (v : Int) : ByteArray := if v = 1 then ⟨#[116, 114, 117, 101]⟩ else ⟨#[102, 97, 108, 115, 101]⟩
theorem show14 (v : Int) (w : World) : Calls Try.prog 14 #[.int .i64 v] w fun e w' => e = .returned (.string (showB v)) ∧ w = w' := by
  by_cases h : v = 1
  · have HS := Lib.hid (show showB v = ⟨#[116, 114, 117, 101]⟩ by unfold showB; rw [if_pos h])
    subst h
    go_enter Try.func14, Try.ntmps14
    go_wp2
    go_ret
    exact ⟨(by rw [HS.out]; rfl), rfl⟩
  · have HS := Lib.hid (show showB v = ⟨#[102, 97, 108, 115, 101]⟩ by unfold showB; rw [if_neg h])
    have g : (v == 1) = false := by rw [beq_eq_false_iff_ne]; exact h
    clear h
    go_enter Try.func14, Try.ntmps14
    go_wp2
    go_ret
    exact ⟨(by rw [HS.out]; rfl), rfl⟩
theorem show15 (v : Int) (w : World) : Calls Try.prog 15 #[.int .i64 v] w fun e w' => e = .returned (.string (showB v)) ∧ w = w' := by
  by_cases h : v = 1
  · have HS := Lib.hid (show showB v = ⟨#[116, 114, 117, 101]⟩ by unfold showB; rw [if_pos h])
    subst h
    go_enter Try.func15, Try.ntmps15
    go_wp2
    go_ret
    exact ⟨(by rw [HS.out]; rfl), rfl⟩
  · have HS := Lib.hid (show showB v = ⟨#[102, 97, 108, 115, 101]⟩ by unfold showB; rw [if_neg h])
    have g : (v == 1) = false := by rw [beq_eq_false_iff_ne]; exact h
    clear h
    go_enter Try.func15, Try.ntmps15
    go_wp2
    go_ret
    exact ⟨(by rw [HS.out]; rfl), rfl⟩

def stepN (n : Int) (c : UInt8) : Int := if 48 ≤ (c.toNat : Int) ∧ (c.toNat : Int) ≤ 57 then wrap64 (wrap64 (n * 10) - (c.toNat - 48)) else n
def foldN (l : List UInt8) : Int := l.foldl stepN 0
theorem foldN_take (r : ByteArray) (k : Nat) (h : k < r.size) : foldN (r.data.toList.take (k + 1)) = stepN (foldN (r.data.toList.take k)) r[k] := by
  have : r.data.toList.take (k + 1) = r.data.toList.take k ++ [r[k]] := by
    rw [List.take_succ_eq_append_getElem (by simpa using h)]; rfl
  rw [this]
  simp [foldN]
theorem read11_long (s : ByteArray) (w : World) (h1 : 20 < s.size) : Calls Try.prog 11 #[.string s] w fun e w' =>
    e = .returned (.tuple #[.int .i64 0, .int .i64 5]) ∧ w = w' := by
  have c2 : decide ((20 : Int) < (s.size : Int)) = true := by rw [decide_eq_true_iff]; omega
  have c3 : decide (20 < s.size) = true := by rw [decide_eq_true_iff]; omega
  go_enter Try.func11, Try.ntmps11
  go_wp2
  go_ret2
  exact ⟨rfl, rfl⟩

set_option maxHeartbeats 1000000 in
theorem read11_empty_yes (s : ByteArray) (w : World) (h2 : s.size ≤ 20) (hk : s.size = 0) (F : Int) (hF : foldN s.data.toList = F)
   (ht : (txtB (wrap64 (-F))).toList = s.toList) : Calls Try.prog 11 #[.string s] w fun e w' =>
    (e = .returned (.tuple #[.int .i64 (wrap64 (-F)), .int .i64 0])) ∧ w = w' := by
  have c2 : decide ((20 : Int) < (s.size : Int)) = false := by rw [decide_eq_false_iff_not]; omega
  have c3 : decide (20 < s.size) = false := by rw [decide_eq_false_iff_not]; omega
  have k1 : ((s.size : Int) == 0) = true := by rw [beq_iff_eq]; omega
  have t1 : ((txtB (wrap64 (-F))).toList == s.toList) = true := by rw [beq_iff_eq]; exact ht
  have t2 : ((txtB (wrap64 (-F))).toList != s.toList) = false := by rw [bne_eq_false_iff_eq]; exact ht
  have HFF := Lib.hid hF
  have T1 := Lib.hid t1
  have T2 := Lib.hid t2
  clear ht hF hk t1 t2
  go_enter Try.func11, Try.ntmps11
  go_wp2
  go_loop [4, 5] (fun u i => ∃ k : Nat, k ≤ s.size ∧ i = .int .i64 k ∧ u = .int .i64 (foldN (s.data.toList.take k))) (fun _ i => s.size - (intOf i).toNat)
  case atStart => exact ⟨0, Nat.zero_le _, rfl, rfl⟩
  case round =>
    obtain ⟨k, hk, rfl, rfl⟩ := hrel
    by_cases hlt : k < s.size
    · have hf := foldN_take s k hlt
      have HF := Lib.hid hf
      clear hf
      generalize foldN (s.data.toList.take k) = u at *
      go_wp2
      all_goals
        go_round
        case rel =>
          refine ⟨k + 1, by omega, by go_num, ?_⟩
          rw [HF.out]
          unfold stepN
          first | rw [if_pos ⟨‹_›, ‹_›⟩] | rw [if_neg (by omega)]
        case measure => simp [intOf]; omega
    · have e : foldN (s.data.toList.take k) = foldN s.data.toList := by
        rw [List.take_of_length_le]
        rw [← Lib.size_eq]; omega
      rw [e, HFF.out]
      clear e
      have t1 := T1.out
      have t2 := T2.out
      have hb := fun w => text13 (wrap64 (-F)) w (wrap64_lo _) (wrap64_hi _)
      have HB := Lib.hid hb
      clear hb
      go_wp2_with (go_at_call 13; refine (HB.out _).mono ?_; rintro e w' ⟨rfl, rfl⟩)
      go_ret2
      exact ⟨rfl, rfl⟩

set_option maxHeartbeats 1000000 in
theorem read11_empty_no (s : ByteArray) (w : World) (h2 : s.size ≤ 20) (hk : s.size = 0) (F : Int) (hF : foldN s.data.toList = F)
   (ht : ¬ (txtB (wrap64 (-F))).toList = s.toList) : Calls Try.prog 11 #[.string s] w fun e w' =>
    (e = .returned (.tuple #[.int .i64 0, .int .i64 5])) ∧ w = w' := by
  have c2 : decide ((20 : Int) < (s.size : Int)) = false := by rw [decide_eq_false_iff_not]; omega
  have c3 : decide (20 < s.size) = false := by rw [decide_eq_false_iff_not]; omega
  have k1 : ((s.size : Int) == 0) = true := by rw [beq_iff_eq]; omega
  have t1 : ((txtB (wrap64 (-F))).toList == s.toList) = false := by rw [beq_eq_false_iff_ne]; exact ht
  have t2 : ((txtB (wrap64 (-F))).toList != s.toList) = true := by rw [bne_iff_ne]; exact ht
  have HFF := Lib.hid hF
  have T1 := Lib.hid t1
  have T2 := Lib.hid t2
  clear ht hF hk t1 t2
  go_enter Try.func11, Try.ntmps11
  go_wp2
  go_loop [4, 5] (fun u i => ∃ k : Nat, k ≤ s.size ∧ i = .int .i64 k ∧ u = .int .i64 (foldN (s.data.toList.take k))) (fun _ i => s.size - (intOf i).toNat)
  case atStart => exact ⟨0, Nat.zero_le _, rfl, rfl⟩
  case round =>
    obtain ⟨k, hk, rfl, rfl⟩ := hrel
    by_cases hlt : k < s.size
    · have hf := foldN_take s k hlt
      have HF := Lib.hid hf
      clear hf
      generalize foldN (s.data.toList.take k) = u at *
      go_wp2
      all_goals
        go_round
        case rel =>
          refine ⟨k + 1, by omega, by go_num, ?_⟩
          rw [HF.out]
          unfold stepN
          first | rw [if_pos ⟨‹_›, ‹_›⟩] | rw [if_neg (by omega)]
        case measure => simp [intOf]; omega
    · have e : foldN (s.data.toList.take k) = foldN s.data.toList := by
        rw [List.take_of_length_le]
        rw [← Lib.size_eq]; omega
      rw [e, HFF.out]
      clear e
      have t1 := T1.out
      have t2 := T2.out
      have hb := fun w => text13 (wrap64 (-F)) w (wrap64_lo _) (wrap64_hi _)
      have HB := Lib.hid hb
      clear hb
      go_wp2_with (go_at_call 13; refine (HB.out _).mono ?_; rintro e w' ⟨rfl, rfl⟩)
      go_ret2
      exact ⟨rfl, rfl⟩

set_option maxHeartbeats 1000000 in
theorem read11_plain_yes (s : ByteArray) (w : World) (h2 : s.size ≤ 20) (hk1 : 0 < s.size) (hk : ¬ ((s[0]'hk1).toNat : Int) = 45) (F : Int) (hF : foldN s.data.toList = F)
   (ht : (txtB (wrap64 (-F))).toList = s.toList) : Calls Try.prog 11 #[.string s] w fun e w' =>
    (e = .returned (.tuple #[.int .i64 (wrap64 (-F)), .int .i64 0])) ∧ w = w' := by
  have c2 : decide ((20 : Int) < (s.size : Int)) = false := by rw [decide_eq_false_iff_not]; omega
  have c3 : decide (20 < s.size) = false := by rw [decide_eq_false_iff_not]; omega
  have k1 : ((s.size : Int) == 0) = false := by rw [beq_eq_false_iff_ne]; omega
  have k2 : (((s[0]'hk1).toNat : Int) != 45) = true := by rw [bne_iff_ne]; exact hk
  have k3 : (((s[0]'hk1).toNat : Int) == 45) = false := by rw [beq_eq_false_iff_ne]; exact hk
  have t1 : ((txtB (wrap64 (-F))).toList == s.toList) = true := by rw [beq_iff_eq]; exact ht
  have t2 : ((txtB (wrap64 (-F))).toList != s.toList) = false := by rw [bne_eq_false_iff_eq]; exact ht
  have HFF := Lib.hid hF
  have T1 := Lib.hid t1
  have T2 := Lib.hid t2
  clear ht hF hk t1 t2
  have K2 := Lib.hid k2
  have K3 := Lib.hid k3
  clear k2 k3
  go_enter Try.func11, Try.ntmps11
  go_wp2
  go_loop [4, 5] (fun u i => ∃ k : Nat, k ≤ s.size ∧ i = .int .i64 k ∧ u = .int .i64 (foldN (s.data.toList.take k))) (fun _ i => s.size - (intOf i).toNat)
  case atStart => exact ⟨0, Nat.zero_le _, rfl, rfl⟩
  case round =>
    obtain ⟨k, hk, rfl, rfl⟩ := hrel
    by_cases hlt : k < s.size
    · have hf := foldN_take s k hlt
      have HF := Lib.hid hf
      clear hf
      generalize foldN (s.data.toList.take k) = u at *
      go_wp2
      all_goals
        go_round
        case rel =>
          refine ⟨k + 1, by omega, by go_num, ?_⟩
          rw [HF.out]
          unfold stepN
          first | rw [if_pos ⟨‹_›, ‹_›⟩] | rw [if_neg (by omega)]
        case measure => simp [intOf]; omega
    · have e : foldN (s.data.toList.take k) = foldN s.data.toList := by
        rw [List.take_of_length_le]
        rw [← Lib.size_eq]; omega
      rw [e, HFF.out]
      clear e
      have t1 := T1.out
      have t2 := T2.out
      have k2 := K2.out
      have k3 := K3.out
      have hb := fun w => text13 (wrap64 (-F)) w (wrap64_lo _) (wrap64_hi _)
      have HB := Lib.hid hb
      clear hb
      go_wp2_with (go_at_call 13; refine (HB.out _).mono ?_; rintro e w' ⟨rfl, rfl⟩)
      go_ret2
      exact ⟨rfl, rfl⟩

set_option maxHeartbeats 1000000 in
theorem read11_plain_no (s : ByteArray) (w : World) (h2 : s.size ≤ 20) (hk1 : 0 < s.size) (hk : ¬ ((s[0]'hk1).toNat : Int) = 45) (F : Int) (hF : foldN s.data.toList = F)
   (ht : ¬ (txtB (wrap64 (-F))).toList = s.toList) : Calls Try.prog 11 #[.string s] w fun e w' =>
    (e = .returned (.tuple #[.int .i64 0, .int .i64 5])) ∧ w = w' := by
  have c2 : decide ((20 : Int) < (s.size : Int)) = false := by rw [decide_eq_false_iff_not]; omega
  have c3 : decide (20 < s.size) = false := by rw [decide_eq_false_iff_not]; omega
  have k1 : ((s.size : Int) == 0) = false := by rw [beq_eq_false_iff_ne]; omega
  have k2 : (((s[0]'hk1).toNat : Int) != 45) = true := by rw [bne_iff_ne]; exact hk
  have k3 : (((s[0]'hk1).toNat : Int) == 45) = false := by rw [beq_eq_false_iff_ne]; exact hk
  have t1 : ((txtB (wrap64 (-F))).toList == s.toList) = false := by rw [beq_eq_false_iff_ne]; exact ht
  have t2 : ((txtB (wrap64 (-F))).toList != s.toList) = true := by rw [bne_iff_ne]; exact ht
  have HFF := Lib.hid hF
  have T1 := Lib.hid t1
  have T2 := Lib.hid t2
  clear ht hF hk t1 t2
  have K2 := Lib.hid k2
  have K3 := Lib.hid k3
  clear k2 k3
  go_enter Try.func11, Try.ntmps11
  go_wp2
  go_loop [4, 5] (fun u i => ∃ k : Nat, k ≤ s.size ∧ i = .int .i64 k ∧ u = .int .i64 (foldN (s.data.toList.take k))) (fun _ i => s.size - (intOf i).toNat)
  case atStart => exact ⟨0, Nat.zero_le _, rfl, rfl⟩
  case round =>
    obtain ⟨k, hk, rfl, rfl⟩ := hrel
    by_cases hlt : k < s.size
    · have hf := foldN_take s k hlt
      have HF := Lib.hid hf
      clear hf
      generalize foldN (s.data.toList.take k) = u at *
      go_wp2
      all_goals
        go_round
        case rel =>
          refine ⟨k + 1, by omega, by go_num, ?_⟩
          rw [HF.out]
          unfold stepN
          first | rw [if_pos ⟨‹_›, ‹_›⟩] | rw [if_neg (by omega)]
        case measure => simp [intOf]; omega
    · have e : foldN (s.data.toList.take k) = foldN s.data.toList := by
        rw [List.take_of_length_le]
        rw [← Lib.size_eq]; omega
      rw [e, HFF.out]
      clear e
      have t1 := T1.out
      have t2 := T2.out
      have k2 := K2.out
      have k3 := K3.out
      have hb := fun w => text13 (wrap64 (-F)) w (wrap64_lo _) (wrap64_hi _)
      have HB := Lib.hid hb
      clear hb
      go_wp2_with (go_at_call 13; refine (HB.out _).mono ?_; rintro e w' ⟨rfl, rfl⟩)
      go_ret2
      exact ⟨rfl, rfl⟩

set_option maxHeartbeats 1000000 in
theorem read11_neg_yes (s : ByteArray) (w : World) (h2 : s.size ≤ 20) (hk1 : 0 < s.size) (hk : ((s[0]'hk1).toNat : Int) = 45) (F : Int) (hF : foldN s.data.toList = F) (hlo : -9223372036854775808 ≤ F) (hhi : F ≤ 9223372036854775807)
   (ht : (txtB (F)).toList = s.toList) : Calls Try.prog 11 #[.string s] w fun e w' =>
    (e = .returned (.tuple #[.int .i64 (F), .int .i64 0])) ∧ w = w' := by
  have c2 : decide ((20 : Int) < (s.size : Int)) = false := by rw [decide_eq_false_iff_not]; omega
  have c3 : decide (20 < s.size) = false := by rw [decide_eq_false_iff_not]; omega
  have k1 : ((s.size : Int) == 0) = false := by rw [beq_eq_false_iff_ne]; omega
  have k2 : (((s[0]'hk1).toNat : Int) != 45) = false := by rw [bne_eq_false_iff_eq]; exact hk
  have k3 : (((s[0]'hk1).toNat : Int) == 45) = true := by rw [beq_iff_eq]; exact hk
  have t1 : ((txtB (F)).toList == s.toList) = true := by rw [beq_iff_eq]; exact ht
  have t2 : ((txtB (F)).toList != s.toList) = false := by rw [bne_eq_false_iff_eq]; exact ht
  have HFF := Lib.hid hF
  have T1 := Lib.hid t1
  have T2 := Lib.hid t2
  clear ht hF hk t1 t2
  have K2 := Lib.hid k2
  have K3 := Lib.hid k3
  clear k2 k3
  go_enter Try.func11, Try.ntmps11
  go_wp2
  go_loop [4, 5] (fun u i => ∃ k : Nat, k ≤ s.size ∧ i = .int .i64 k ∧ u = .int .i64 (foldN (s.data.toList.take k))) (fun _ i => s.size - (intOf i).toNat)
  case atStart => exact ⟨0, Nat.zero_le _, rfl, rfl⟩
  case round =>
    obtain ⟨k, hk, rfl, rfl⟩ := hrel
    by_cases hlt : k < s.size
    · have hf := foldN_take s k hlt
      have HF := Lib.hid hf
      clear hf
      generalize foldN (s.data.toList.take k) = u at *
      go_wp2
      all_goals
        go_round
        case rel =>
          refine ⟨k + 1, by omega, by go_num, ?_⟩
          rw [HF.out]
          unfold stepN
          first | rw [if_pos ⟨‹_›, ‹_›⟩] | rw [if_neg (by omega)]
        case measure => simp [intOf]; omega
    · have e : foldN (s.data.toList.take k) = foldN s.data.toList := by
        rw [List.take_of_length_le]
        rw [← Lib.size_eq]; omega
      rw [e, HFF.out]
      clear e
      have t1 := T1.out
      have t2 := T2.out
      have k2 := K2.out
      have k3 := K3.out
      have hb := fun w => text13 (F) w hlo hhi
      have HB := Lib.hid hb
      clear hb
      go_wp2_with (go_at_call 13; refine (HB.out _).mono ?_; rintro e w' ⟨rfl, rfl⟩)
      go_ret2
      exact ⟨rfl, rfl⟩

set_option maxHeartbeats 1000000 in
theorem read11_neg_no (s : ByteArray) (w : World) (h2 : s.size ≤ 20) (hk1 : 0 < s.size) (hk : ((s[0]'hk1).toNat : Int) = 45) (F : Int) (hF : foldN s.data.toList = F) (hlo : -9223372036854775808 ≤ F) (hhi : F ≤ 9223372036854775807)
   (ht : ¬ (txtB (F)).toList = s.toList) : Calls Try.prog 11 #[.string s] w fun e w' =>
    (e = .returned (.tuple #[.int .i64 0, .int .i64 5])) ∧ w = w' := by
  have c2 : decide ((20 : Int) < (s.size : Int)) = false := by rw [decide_eq_false_iff_not]; omega
  have c3 : decide (20 < s.size) = false := by rw [decide_eq_false_iff_not]; omega
  have k1 : ((s.size : Int) == 0) = false := by rw [beq_eq_false_iff_ne]; omega
  have k2 : (((s[0]'hk1).toNat : Int) != 45) = false := by rw [bne_eq_false_iff_eq]; exact hk
  have k3 : (((s[0]'hk1).toNat : Int) == 45) = true := by rw [beq_iff_eq]; exact hk
  have t1 : ((txtB (F)).toList == s.toList) = false := by rw [beq_eq_false_iff_ne]; exact ht
  have t2 : ((txtB (F)).toList != s.toList) = true := by rw [bne_iff_ne]; exact ht
  have HFF := Lib.hid hF
  have T1 := Lib.hid t1
  have T2 := Lib.hid t2
  clear ht hF hk t1 t2
  have K2 := Lib.hid k2
  have K3 := Lib.hid k3
  clear k2 k3
  go_enter Try.func11, Try.ntmps11
  go_wp2
  go_loop [4, 5] (fun u i => ∃ k : Nat, k ≤ s.size ∧ i = .int .i64 k ∧ u = .int .i64 (foldN (s.data.toList.take k))) (fun _ i => s.size - (intOf i).toNat)
  case atStart => exact ⟨0, Nat.zero_le _, rfl, rfl⟩
  case round =>
    obtain ⟨k, hk, rfl, rfl⟩ := hrel
    by_cases hlt : k < s.size
    · have hf := foldN_take s k hlt
      have HF := Lib.hid hf
      clear hf
      generalize foldN (s.data.toList.take k) = u at *
      go_wp2
      all_goals
        go_round
        case rel =>
          refine ⟨k + 1, by omega, by go_num, ?_⟩
          rw [HF.out]
          unfold stepN
          first | rw [if_pos ⟨‹_›, ‹_›⟩] | rw [if_neg (by omega)]
        case measure => simp [intOf]; omega
    · have e : foldN (s.data.toList.take k) = foldN s.data.toList := by
        rw [List.take_of_length_le]
        rw [← Lib.size_eq]; omega
      rw [e, HFF.out]
      clear e
      have t1 := T1.out
      have t2 := T2.out
      have k2 := K2.out
      have k3 := K3.out
      have hb := fun w => text13 (F) w hlo hhi
      have HB := Lib.hid hb
      clear hb
      go_wp2_with (go_at_call 13; refine (HB.out _).mono ?_; rintro e w' ⟨rfl, rfl⟩)
      go_ret2
      exact ⟨rfl, rfl⟩

end Go.Proofs.Ytefiliomfiomfab
