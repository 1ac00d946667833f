/- arith.Read: digits as a number. -/
import Derived.Test.YtefiliomfiomfabText
import Derived.Lib.IndexBytes
namespace Go.Proofs.Ytefiliomfiomfab
open Go.RowKit

def txtB (n : Int) : ByteArray := ⟨(txt n).toArray⟩
theorem txtB_list (n : Int) : (txtB n).toList = txt n := by rw [Lib.toList_data]; rfl
theorem text12B (n : Int) (w : World) (hlo : -9223372036854775808 ≤ n) (hhi : n ≤ 9223372036854775807) : Calls Try.prog 12 #[.int .i64 n] w fun e w' =>
    e = .returned (.string (txtB n)) ∧ ∃ o, w' = w.alloc o := text12 n w hlo hhi

def neg (s : ByteArray) : Bool := (s.extract 0 1).toList == [45]
def cutR (s : ByteArray) : ByteArray := if neg s then s.extract 1 s.size else s
set_option maxHeartbeats 1000000 in
theorem has22 (s : ByteArray) (w : World) : Calls Try.prog 22 #[.string s, .string ⟨#[45]⟩] w fun e w' => e = .returned (.bool (neg s)) ∧ w = w' := by
  by_cases hs : 1 ≤ s.size
  · go_enter Try.func22, Try.ntmps22
    go_wp2
    go_ret
    exact ⟨rfl, rfl⟩
  · have h1 : decide ((1 : Int) ≤ (s.size : Int)) = false := by rw [decide_eq_false_iff_not]; omega
    have h2 : decide (1 ≤ s.size) = false := by rw [decide_eq_false_iff_not]; exact hs
    have hz : neg s = false := by
      unfold neg
      rw [Lib.toList_data, Lib.extract_data]
      have : s.data.toList = [] := List.eq_nil_of_length_eq_zero (by rw [← Lib.size_eq]; omega)
      rw [this]; rfl
    have HZ := Lib.hid hz
    clear hz
    go_enter Try.func22, Try.ntmps22
    go_wp2
    go_ret
    exact ⟨(by rw [HZ.out]; rfl), rfl⟩
set_option maxHeartbeats 1000000 in
theorem cut21 (s : ByteArray) (w : World) (hs : s.size ≤ maxLen) : Calls Try.prog 21 #[.string s, .string ⟨#[45]⟩] w fun e w' => e = .returned (.tuple #[.string (cutR s), .bool (neg s)]) ∧ w = w' := by
  unfold maxLen at hs
  have hc := has22 s w
  have h1 : neg s = true → 1 ≤ s.size := by
    intro h
    rcases Nat.lt_or_ge s.size 1 with h0 | h0
    · unfold neg at h
      rw [Lib.toList_data, Lib.extract_data] at h
      have : s.data.toList = [] := List.eq_nil_of_length_eq_zero (by rw [← Lib.size_eq]; omega)
      rw [this] at h; simp at h
    · exact h0
  have hr : cutR s = if neg s then s.extract 1 s.size else s := rfl
  generalize neg s = b at hc h1 hr
  generalize cutR s = r at hr
  have HC := Lib.hid hc
  clear hc
  cases b with
  | true =>
    have h1' := h1 rfl
    have HR := Lib.hid hr
    clear h1 hr
    go_enter Try.func21, Try.ntmps21
    go_wp2_with (go_at_call 22; refine HC.out.mono ?_; rintro e w' ⟨rfl, rfl⟩)
    go_ret2
    exact ⟨(by rw [HR.out]; rfl), rfl⟩
  | false =>
    have HR := Lib.hid hr
    clear h1 hr
    go_enter Try.func21, Try.ntmps21
    go_wp2_with (go_at_call 22; refine HC.out.mono ?_; rintro e w' ⟨rfl, rfl⟩)
    go_ret2
    exact ⟨(by rw [HR.out]; rfl), rfl⟩
theorem cut20 (s : ByteArray) (w : World) (hs : s.size ≤ maxLen) : Calls Try.prog 20 #[.string s, .string ⟨#[45]⟩] w fun e w' => e = .returned (.tuple #[.string (cutR s), .bool (neg s)]) ∧ w = w' := by
  go_enter Try.func20, Try.ntmps20
  go_wp2_with (go_at_call 21; refine (cut21 s w hs).mono ?_; rintro e w' ⟨rfl, rfl⟩)
  go_ret2
  exact ⟨rfl, rfl⟩

def stepU (u : Int) (c : UInt8) : Int := IntKind.u64.wrap (IntKind.u64.wrap (u * 10) + (c.toNat - 48) % 256)
def foldU (l : List UInt8) : Int := l.foldl stepU 0
theorem foldU_take (r : ByteArray) (k : Nat) (h : k < r.size) : foldU (r.data.toList.take (k + 1)) = stepU (foldU (r.data.toList.take k)) r[k] := by
  have : r.data.toList.take (k + 1) = r.data.toList.take k ++ [r[k]] := by
    rw [List.take_succ_eq_append_getElem (by simpa using h)]; rfl
  rw [this]
  simp [foldU]

theorem wrap64_lo (x : Int) : -9223372036854775808 ≤ wrap64 x := by unfold wrap64; omega
theorem wrap64_hi (x : Int) : wrap64 x ≤ 9223372036854775807 := by unfold wrap64; omega
def numOf (b : Bool) (r : List UInt8) : Int := if b then wrap64 (-wrap64 (foldU r)) else wrap64 (foldU r)

theorem read10_short (s : ByteArray) (w : World) (hs : s.size ≤ maxLen) (h1 : (cutR s).size < 1 ∨ 20 ≤ (cutR s).size) : Calls Try.prog 10 #[.string s] w fun e w' =>
    e = .returned (.tuple #[.int .i64 0, .int .i64 5]) ∧ w = w' := by
  have hc := cut20 s w hs
  generalize cutR s = r at *
  generalize neg s = b at *
  have HC := Lib.hid hc
  clear hc
  rcases h1 with h1 | h1
  · have c1 : ((r.size : Int) == 0) = true := by rw [beq_iff_eq]; omega
    go_enter Try.func10, Try.ntmps10
    go_wp2_with (go_at_call 20; refine HC.out.mono ?_; rintro e w' ⟨rfl, rfl⟩)
    go_ret2
    exact ⟨rfl, rfl⟩
  · have c1 : ((r.size : Int) == 0) = false := by rw [beq_eq_false_iff_ne]; omega
    have c2 : decide ((20 : Int) ≤ (r.size : Int)) = true := by rw [decide_eq_true_iff]; omega
    have c3 : decide (20 ≤ r.size) = true := by rw [decide_eq_true_iff]; omega
    go_enter Try.func10, Try.ntmps10
    go_wp2_with (go_at_call 20; refine HC.out.mono ?_; rintro e w' ⟨rfl, rfl⟩)
    go_ret2
    exact ⟨rfl, rfl⟩

set_option maxHeartbeats 1000000 in
theorem read10_true_yes (s : ByteArray) (w : World) (hs : s.size ≤ maxLen) (hneg : neg s = true) (r : ByteArray) (hr : cutR s = r) (h1 : 1 ≤ r.size) (h2 : r.size < 20) (F : Int) (hF : foldU r.data.toList = F)
   (ht : (txtB (wrap64 (-wrap64 F))).toList = s.toList) : Calls Try.prog 10 #[.string s] w fun e w' =>
    (e = .returned (.tuple #[.int .i64 (wrap64 (-wrap64 F)), .int .i64 0])) ∧ ∃ o, w' = w.alloc o := by
  have hc := cut20 s w hs
  rw [hneg, hr] at hc
  have HC := Lib.hid hc
  have c1 : ((r.size : Int) == 0) = false := by rw [beq_eq_false_iff_ne]; omega
  have c2 : decide ((20 : Int) ≤ (r.size : Int)) = false := by rw [decide_eq_false_iff_not]; omega
  have c3 : decide (20 ≤ r.size) = false := by rw [decide_eq_false_iff_not]; omega
  have t1 : ((txtB (wrap64 (-wrap64 F))).toList == s.toList) = true := by rw [beq_iff_eq]; exact ht
  have t2 : ((txtB (wrap64 (-wrap64 F))).toList != s.toList) = false := by rw [bne_eq_false_iff_eq]; exact ht
  have HFF := Lib.hid hF
  clear hc hneg hr ht hF
  go_enter Try.func10, Try.ntmps10
  go_wp2_with (go_at_call 20; refine HC.out.mono ?_; rintro e w' ⟨rfl, rfl⟩)
  go_loop [6, 24] (fun u i => ∃ k : Nat, k ≤ r.size ∧ i = .int .i64 k ∧ u = .int .u64 (foldU (r.data.toList.take k))) (fun _ i => r.size - (intOf i).toNat)
  case atStart => exact ⟨0, Nat.zero_le _, rfl, rfl⟩
  case round =>
    obtain ⟨k, hk, rfl, rfl⟩ := hrel
    by_cases hlt : k < r.size
    · have hf := foldU_take r k hlt
      have HF := Lib.hid hf
      clear hf t1 t2
      generalize foldU (r.data.toList.take k) = u at *
      go_wp2
      go_round
      case rel =>
        refine ⟨k + 1, by omega, by go_num, ?_⟩
        rw [HF.out]
        rfl
      case measure => simp [intOf]; omega
    · have e : foldU (r.data.toList.take k) = foldU r.data.toList := by
        rw [List.take_of_length_le]
        rw [← Lib.size_eq]; omega
      rw [e, HFF.out]
      clear e
      have hb := fun w => text12B (wrap64 (-wrap64 F)) w (wrap64_lo _) (wrap64_hi _)
      have HB := Lib.hid hb
      clear hb
      go_wp2_with (go_at_call 12; refine (HB.out _).mono ?_; rintro e w' ⟨rfl, o, rfl⟩)
      go_ret2
      exact ⟨rfl, _, rfl⟩

set_option maxHeartbeats 1000000 in
theorem read10_true_no (s : ByteArray) (w : World) (hs : s.size ≤ maxLen) (hneg : neg s = true) (r : ByteArray) (hr : cutR s = r) (h1 : 1 ≤ r.size) (h2 : r.size < 20) (F : Int) (hF : foldU r.data.toList = F)
   (ht : ¬ (txtB (wrap64 (-wrap64 F))).toList = s.toList) : Calls Try.prog 10 #[.string s] w fun e w' =>
    (e = .returned (.tuple #[.int .i64 0, .int .i64 5])) ∧ ∃ o, w' = w.alloc o := by
  have hc := cut20 s w hs
  rw [hneg, hr] at hc
  have HC := Lib.hid hc
  have c1 : ((r.size : Int) == 0) = false := by rw [beq_eq_false_iff_ne]; omega
  have c2 : decide ((20 : Int) ≤ (r.size : Int)) = false := by rw [decide_eq_false_iff_not]; omega
  have c3 : decide (20 ≤ r.size) = false := by rw [decide_eq_false_iff_not]; omega
  have t1 : ((txtB (wrap64 (-wrap64 F))).toList == s.toList) = false := by rw [beq_eq_false_iff_ne]; exact ht
  have t2 : ((txtB (wrap64 (-wrap64 F))).toList != s.toList) = true := by rw [bne_iff_ne]; exact ht
  have HFF := Lib.hid hF
  clear hc hneg hr ht hF
  go_enter Try.func10, Try.ntmps10
  go_wp2_with (go_at_call 20; refine HC.out.mono ?_; rintro e w' ⟨rfl, rfl⟩)
  go_loop [6, 24] (fun u i => ∃ k : Nat, k ≤ r.size ∧ i = .int .i64 k ∧ u = .int .u64 (foldU (r.data.toList.take k))) (fun _ i => r.size - (intOf i).toNat)
  case atStart => exact ⟨0, Nat.zero_le _, rfl, rfl⟩
  case round =>
    obtain ⟨k, hk, rfl, rfl⟩ := hrel
    by_cases hlt : k < r.size
    · have hf := foldU_take r k hlt
      have HF := Lib.hid hf
      clear hf t1 t2
      generalize foldU (r.data.toList.take k) = u at *
      go_wp2
      go_round
      case rel =>
        refine ⟨k + 1, by omega, by go_num, ?_⟩
        rw [HF.out]
        rfl
      case measure => simp [intOf]; omega
    · have e : foldU (r.data.toList.take k) = foldU r.data.toList := by
        rw [List.take_of_length_le]
        rw [← Lib.size_eq]; omega
      rw [e, HFF.out]
      clear e
      have hb := fun w => text12B (wrap64 (-wrap64 F)) w (wrap64_lo _) (wrap64_hi _)
      have HB := Lib.hid hb
      clear hb
      go_wp2_with (go_at_call 12; refine (HB.out _).mono ?_; rintro e w' ⟨rfl, o, rfl⟩)
      go_ret2
      exact ⟨rfl, _, rfl⟩

set_option maxHeartbeats 1000000 in
theorem read10_false_yes (s : ByteArray) (w : World) (hs : s.size ≤ maxLen) (hneg : neg s = false) (r : ByteArray) (hr : cutR s = r) (h1 : 1 ≤ r.size) (h2 : r.size < 20) (F : Int) (hF : foldU r.data.toList = F)
   (ht : (txtB (wrap64 F)).toList = s.toList) : Calls Try.prog 10 #[.string s] w fun e w' =>
    (e = .returned (.tuple #[.int .i64 (wrap64 F), .int .i64 0])) ∧ ∃ o, w' = w.alloc o := by
  have hc := cut20 s w hs
  rw [hneg, hr] at hc
  have HC := Lib.hid hc
  have c1 : ((r.size : Int) == 0) = false := by rw [beq_eq_false_iff_ne]; omega
  have c2 : decide ((20 : Int) ≤ (r.size : Int)) = false := by rw [decide_eq_false_iff_not]; omega
  have c3 : decide (20 ≤ r.size) = false := by rw [decide_eq_false_iff_not]; omega
  have t1 : ((txtB (wrap64 F)).toList == s.toList) = true := by rw [beq_iff_eq]; exact ht
  have t2 : ((txtB (wrap64 F)).toList != s.toList) = false := by rw [bne_eq_false_iff_eq]; exact ht
  have HFF := Lib.hid hF
  clear hc hneg hr ht hF
  go_enter Try.func10, Try.ntmps10
  go_wp2_with (go_at_call 20; refine HC.out.mono ?_; rintro e w' ⟨rfl, rfl⟩)
  go_loop [6, 24] (fun u i => ∃ k : Nat, k ≤ r.size ∧ i = .int .i64 k ∧ u = .int .u64 (foldU (r.data.toList.take k))) (fun _ i => r.size - (intOf i).toNat)
  case atStart => exact ⟨0, Nat.zero_le _, rfl, rfl⟩
  case round =>
    obtain ⟨k, hk, rfl, rfl⟩ := hrel
    by_cases hlt : k < r.size
    · have hf := foldU_take r k hlt
      have HF := Lib.hid hf
      clear hf t1 t2
      generalize foldU (r.data.toList.take k) = u at *
      go_wp2
      go_round
      case rel =>
        refine ⟨k + 1, by omega, by go_num, ?_⟩
        rw [HF.out]
        rfl
      case measure => simp [intOf]; omega
    · have e : foldU (r.data.toList.take k) = foldU r.data.toList := by
        rw [List.take_of_length_le]
        rw [← Lib.size_eq]; omega
      rw [e, HFF.out]
      clear e
      have hb := fun w => text12B (wrap64 F) w (wrap64_lo _) (wrap64_hi _)
      have HB := Lib.hid hb
      clear hb
      go_wp2_with (go_at_call 12; refine (HB.out _).mono ?_; rintro e w' ⟨rfl, o, rfl⟩)
      go_ret2
      exact ⟨rfl, _, rfl⟩

set_option maxHeartbeats 1000000 in
theorem read10_false_no (s : ByteArray) (w : World) (hs : s.size ≤ maxLen) (hneg : neg s = false) (r : ByteArray) (hr : cutR s = r) (h1 : 1 ≤ r.size) (h2 : r.size < 20) (F : Int) (hF : foldU r.data.toList = F)
   (ht : ¬ (txtB (wrap64 F)).toList = s.toList) : Calls Try.prog 10 #[.string s] w fun e w' =>
    (e = .returned (.tuple #[.int .i64 0, .int .i64 5])) ∧ ∃ o, w' = w.alloc o := by
  have hc := cut20 s w hs
  rw [hneg, hr] at hc
  have HC := Lib.hid hc
  have c1 : ((r.size : Int) == 0) = false := by rw [beq_eq_false_iff_ne]; omega
  have c2 : decide ((20 : Int) ≤ (r.size : Int)) = false := by rw [decide_eq_false_iff_not]; omega
  have c3 : decide (20 ≤ r.size) = false := by rw [decide_eq_false_iff_not]; omega
  have t1 : ((txtB (wrap64 F)).toList == s.toList) = false := by rw [beq_eq_false_iff_ne]; exact ht
  have t2 : ((txtB (wrap64 F)).toList != s.toList) = true := by rw [bne_iff_ne]; exact ht
  have HFF := Lib.hid hF
  clear hc hneg hr ht hF
  go_enter Try.func10, Try.ntmps10
  go_wp2_with (go_at_call 20; refine HC.out.mono ?_; rintro e w' ⟨rfl, rfl⟩)
  go_loop [6, 24] (fun u i => ∃ k : Nat, k ≤ r.size ∧ i = .int .i64 k ∧ u = .int .u64 (foldU (r.data.toList.take k))) (fun _ i => r.size - (intOf i).toNat)
  case atStart => exact ⟨0, Nat.zero_le _, rfl, rfl⟩
  case round =>
    obtain ⟨k, hk, rfl, rfl⟩ := hrel
    by_cases hlt : k < r.size
    · have hf := foldU_take r k hlt
      have HF := Lib.hid hf
      clear hf t1 t2
      generalize foldU (r.data.toList.take k) = u at *
      go_wp2
      go_round
      case rel =>
        refine ⟨k + 1, by omega, by go_num, ?_⟩
        rw [HF.out]
        rfl
      case measure => simp [intOf]; omega
    · have e : foldU (r.data.toList.take k) = foldU r.data.toList := by
        rw [List.take_of_length_le]
        rw [← Lib.size_eq]; omega
      rw [e, HFF.out]
      clear e
      have hb := fun w => text12B (wrap64 F) w (wrap64_lo _) (wrap64_hi _)
      have HB := Lib.hid hb
      clear hb
      go_wp2_with (go_at_call 12; refine (HB.out _).mono ?_; rintro e w' ⟨rfl, o, rfl⟩)
      go_ret2
      exact ⟨rfl, _, rfl⟩

end Go.Proofs.Ytefiliomfiomfab
