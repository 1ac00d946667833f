/- The four laws on numbers: each call answers true. -/
import Derived.Test.YtefiliomfiomfabPlain
namespace Go.Proofs.Ytefiliomfiomfab
open Go.RowKit

set_option maxHeartbeats 1000000 in
theorem does_walk (op a b : Int) (w : World) : Calls Try.prog 3 #[.int .i64 op, .int .i64 a, .int .i64 b] w fun e w' => e = .returned (.bool true) ∧ Below w.heap.size w w' := by
  have h1 := do7 op a b
  have h2 := do8 op a b
  generalize doF op a b = d at h1 h2
  obtain ⟨x, r⟩ := d
  have H1 := Lib.hid h1
  have H2 := Lib.hid h2
  clear h1 h2
  go_enter Try.func3, Try.ntmps3
  go_wp2_with fail
  refine (H1.out _).mono ?_
  rintro e w' ⟨rfl, rfl⟩
  go_wp2_with fail
  refine (H2.out _).mono ?_
  rintro e w' ⟨rfl, rfl⟩
  go_wp2_with fail
  refine (known9 _).mono ?_
  rintro e w' ⟨rfl, hb⟩
  go_wp2_with fail
  go_ret
  exact ⟨rfl, hb⟩

theorem tr_le (b : Bool) : 0 ≤ tr b ∧ tr b ≤ 1 := by cases b <;> exact ⟨by decide, by decide⟩
set_option maxHeartbeats 1000000 in
theorem order_walk (a b : Int) (w : World) : Calls Try.prog 6 #[.int .i64 a, .int .i64 b] w fun e w' => e = .returned (.bool true) ∧ Below w.heap.size w w' := by
  obtain ⟨x, hx⟩ : ∃ x, x = tr (decide (a < b)) := ⟨_, rfl⟩
  obtain ⟨y, hy⟩ : ∃ y, y = tr (decide (b < a)) := ⟨_, rfl⟩
  obtain ⟨z, hz⟩ : ∃ z, z = tr (a == b) := ⟨_, rfl⟩
  obtain ⟨v, hv⟩ : ∃ v, v = tr (decide (a ≤ b)) := ⟨_, rfl⟩
  obtain ⟨n, hn⟩ : ∃ n, n = tr (z == 0) := ⟨_, rfl⟩
  obtain ⟨m, hm⟩ : ∃ m, m = tr (n == 0) := ⟨_, rfl⟩
  have h1 : ∀ w, Calls Try.prog 7 #[.int .i64 17, .int .i64 a, .int .i64 b] w fun e w' => e = .returned (.tuple #[.int .i64 x, .int .i64 0]) ∧ w = w' := by rw [hx]; exact do7 17 a b
  have h2 : ∀ w, Calls Try.prog 7 #[.int .i64 17, .int .i64 b, .int .i64 a] w fun e w' => e = .returned (.tuple #[.int .i64 y, .int .i64 0]) ∧ w = w' := by rw [hy]; exact do7 17 b a
  have h3 : ∀ w, Calls Try.prog 7 #[.int .i64 19, .int .i64 a, .int .i64 b] w fun e w' => e = .returned (.tuple #[.int .i64 z, .int .i64 0]) ∧ w = w' := by rw [hz]; exact do7 19 a b
  have h4 : ∀ w, Calls Try.prog 7 #[.int .i64 18, .int .i64 a, .int .i64 b] w fun e w' => e = .returned (.tuple #[.int .i64 v, .int .i64 0]) ∧ w = w' := by rw [hv]; exact do7 18 a b
  have h5 : ∀ w, Calls Try.prog 7 #[.int .i64 16, .int .i64 z, .int .i64 0] w fun e w' => e = .returned (.tuple #[.int .i64 n, .int .i64 0]) ∧ w = w' := by rw [hn]; exact do7 16 z 0
  have h6 : ∀ w, Calls Try.prog 7 #[.int .i64 16, .int .i64 n, .int .i64 0] w fun e w' => e = .returned (.tuple #[.int .i64 m, .int .i64 0]) ∧ w = w' := by rw [hm]; exact do7 16 n 0
  have hS : (x + y + z = 1 ∧ v = x + z ∧ m = z) ∧ 0 ≤ x ∧ x ≤ 1 ∧ 0 ≤ y ∧ y ≤ 1 ∧ 0 ≤ z ∧ z ≤ 1 := by
    refine ⟨?_, ?_⟩
    · rcases Int.lt_trichotomy a b with h | h | h
      · have e1 : decide (a < b) = true := decide_eq_true h
        have e2 : decide (b < a) = false := decide_eq_false (by omega)
        have e3 : (a == b) = false := beq_eq_false_iff_ne.2 (by omega)
        have e4 : decide (a ≤ b) = true := decide_eq_true (by omega)
        rw [e1] at hx; rw [e2] at hy; rw [e3] at hz; rw [e4] at hv
        subst hx hy hz hv
        subst hn
        subst hm
        decide
      · have e1 : decide (a < b) = false := decide_eq_false (by omega)
        have e2 : decide (b < a) = false := decide_eq_false (by omega)
        have e3 : (a == b) = true := beq_iff_eq.2 h
        have e4 : decide (a ≤ b) = true := decide_eq_true (by omega)
        rw [e1] at hx; rw [e2] at hy; rw [e3] at hz; rw [e4] at hv
        subst hx hy hz hv
        subst hn
        subst hm
        decide
      · have e1 : decide (a < b) = false := decide_eq_false (by omega)
        have e2 : decide (b < a) = true := decide_eq_true h
        have e3 : (a == b) = false := beq_eq_false_iff_ne.2 (by omega)
        have e4 : decide (a ≤ b) = false := decide_eq_false (by omega)
        rw [e1] at hx; rw [e2] at hy; rw [e3] at hz; rw [e4] at hv
        subst hx hy hz hv
        subst hn
        subst hm
        decide
    · rw [hx, hy, hz]
      have := tr_le (decide (a < b))
      have := tr_le (decide (b < a))
      have := tr_le (a == b)
      omega
  obtain ⟨⟨s1, s2, s3⟩, b1, b2, b3, b4, b5, b6⟩ := hS
  have t1 : (x + y + z == 1) = true := beq_iff_eq.2 s1
  have t2 : (v == x + z) = true := beq_iff_eq.2 s2
  have t3 : (m == z) = true := beq_iff_eq.2 s3
  have H1 := Lib.hid h1
  have H2 := Lib.hid h2
  have H3 := Lib.hid h3
  have H4 := Lib.hid h4
  have H5 := Lib.hid h5
  have H6 := Lib.hid h6
  clear h1 h2 h3 h4 h5 h6 s1 s2 s3 hx hy hz hv hn hm
  go_enter Try.func6, Try.ntmps6
  go_wp2_with fail
  refine (H1.out _).mono ?_
  rintro e w' ⟨rfl, rfl⟩
  go_wp2_with fail
  refine (H2.out _).mono ?_
  rintro e w' ⟨rfl, rfl⟩
  go_wp2_with fail
  refine (H3.out _).mono ?_
  rintro e w' ⟨rfl, rfl⟩
  go_wp2_with fail
  refine (H4.out _).mono ?_
  rintro e w' ⟨rfl, rfl⟩
  go_wp2_with fail
  refine (H5.out _).mono ?_
  rintro e w' ⟨rfl, rfl⟩
  go_wp2_with fail
  refine (H6.out _).mono ?_
  rintro e w' ⟨rfl, rfl⟩
  go_wp2_with fail
  refine (known9 _).mono ?_
  rintro e w' ⟨rfl, hb⟩
  go_wp2_with fail
  go_ret
  exact ⟨rfl, hb⟩

def na (x : Int) : Int := if 0 < x then -x else x
set_option maxHeartbeats 1000000 in
theorem less16 (r b : Int) (w : World) (h1 : -9223372036854775808 ≤ r) (h2 : r ≤ 9223372036854775807) (h3 : -9223372036854775808 ≤ b) (h4 : b ≤ 9223372036854775807) (h : na b < na r) :
    Calls Try.prog 16 #[.int .i64 r, .int .i64 b] w fun e w' => e = .returned (.bool true) ∧ w = w' := by
  unfold na at h
  by_cases hr : 0 < r
  · rw [if_pos hr] at h
    by_cases hb : 0 < b
    · rw [if_pos hb] at h
      go_enter Try.func16, Try.ntmps16
      go_wp2
      go_ret
      exact ⟨rfl, rfl⟩
    · rw [if_neg hb] at h
      go_enter Try.func16, Try.ntmps16
      go_wp2
      go_ret
      exact ⟨rfl, rfl⟩
  · rw [if_neg hr] at h
    by_cases hb : 0 < b
    · rw [if_pos hb] at h
      go_enter Try.func16, Try.ntmps16
      go_wp2
      go_ret
      exact ⟨rfl, rfl⟩
    · rw [if_neg hb] at h
      go_enter Try.func16, Try.ntmps16
      go_wp2
      go_ret
      exact ⟨rfl, rfl⟩

theorem wrap_three (t b r : Int) (a : Int) (h : t * b + r = a) (ha : Rng a) : wrap64 (wrap64 (wrap64 t * b) + r) = a := by
  unfold Rng at ha
  have e1 : wrap64 (wrap64 t * b) = wrap64 (t * b) := by
    have : ∃ k, wrap64 t = t + k * 18446744073709551616 := ⟨-((t + 9223372036854775808) / 18446744073709551616), by unfold wrap64; omega⟩
    obtain ⟨k, hk⟩ := this
    rw [hk, Int.add_mul, show k * 18446744073709551616 * b = (k * b) * 18446744073709551616 by rw [Int.mul_assoc, Int.mul_comm 18446744073709551616 b, ← Int.mul_assoc]]
    unfold wrap64
    omega
  rw [e1]
  generalize t * b = y at *
  unfold wrap64
  omega

set_option maxHeartbeats 2000000 in
theorem parts_walk (a b : Int) (w : World) (ha : Rng a) (hbb : Rng b) : Calls Try.prog 5 #[.int .i64 a, .int .i64 b] w fun e w' => e = .returned (.bool true) ∧ Below w.heap.size w w' := by
  by_cases h0 : b = 0
  · subst h0
    have h1 : ∀ w, Calls Try.prog 7 #[.int .i64 13, .int .i64 a, .int .i64 0] w fun e w' => e = .returned (.tuple #[.int .i64 0, .int .i64 28]) ∧ w = w' := do7 13 a 0
    have h2 : ∀ w, Calls Try.prog 7 #[.int .i64 14, .int .i64 a, .int .i64 0] w fun e w' => e = .returned (.tuple #[.int .i64 0, .int .i64 28]) ∧ w = w' := do7 14 a 0
    have H1 := Lib.hid h1
    have H2 := Lib.hid h2
    clear h1 h2
    go_enter Try.func5, Try.ntmps5
    go_wp2_with fail
    refine (H1.out _).mono ?_
    rintro e w' ⟨rfl, rfl⟩
    go_wp2_with fail
    refine (H2.out _).mono ?_
    rintro e w' ⟨rfl, rfl⟩
    go_wp2_with fail
    refine (known9 _).mono ?_
    rintro e w' ⟨rfl, hb⟩
    go_wp2_with fail
    go_ret
    exact ⟨rfl, hb⟩
  obtain ⟨q, hq⟩ : ∃ q, q = wrap64 (a.tdiv b) := ⟨_, rfl⟩
  obtain ⟨r, hr⟩ : ∃ r, r = a.tmod b := ⟨_, rfl⟩
  obtain ⟨p, hp⟩ : ∃ p, p = wrap64 (q * b) := ⟨_, rfl⟩
  have h1 : ∀ w, Calls Try.prog 7 #[.int .i64 13, .int .i64 a, .int .i64 b] w fun e w' => e = .returned (.tuple #[.int .i64 q, .int .i64 0]) ∧ w = w' := by
    have e : doF 13 a b = (q, 0) := by rw [hq]; simp [doF, h0]
    have := do7 13 a b
    rw [e] at this
    exact this
  have h2 : ∀ w, Calls Try.prog 7 #[.int .i64 14, .int .i64 a, .int .i64 b] w fun e w' => e = .returned (.tuple #[.int .i64 r, .int .i64 0]) ∧ w = w' := by
    have e : doF 14 a b = (r, 0) := by rw [hr]; simp [doF, h0]
    have := do7 14 a b
    rw [e] at this
    exact this
  have h3 : ∀ w, Calls Try.prog 7 #[.int .i64 12, .int .i64 q, .int .i64 b] w fun e w' => e = .returned (.tuple #[.int .i64 p, .int .i64 0]) ∧ w = w' := by
    have e : doF 12 q b = (p, 0) := by rw [hp]; simp [doF]
    have := do7 12 q b
    rw [e] at this
    exact this
  have hs : wrap64 (p + r) = a := by
    rw [hp, hq, hr]
    refine wrap_three _ _ _ a ?_ ha
    rw [Int.mul_comm]; exact Int.mul_tdiv_add_tmod a b
  have h4 : ∀ w, Calls Try.prog 7 #[.int .i64 10, .int .i64 p, .int .i64 r] w fun e w' => e = .returned (.tuple #[.int .i64 a, .int .i64 0]) ∧ w = w' := by
    have e : doF 10 p r = (a, 0) := by simp [doF, hs]
    have := do7 10 p r
    rw [e] at this
    exact this
  have hsg : r = 0 ∨ (¬ r = 0 ∧ (r < 0 ↔ a < 0)) := by
    by_cases hz : r = 0
    · exact .inl hz
    · refine .inr ⟨hz, ?_⟩
      rw [hr] at hz ⊢
      have := Int.mul_tdiv_add_tmod a b
      rcases (show a < 0 ∨ 0 ≤ a by omega) with h | h
      · have x1 := Int.tmod_nonneg (a := -a) b (by omega)
        rw [Int.neg_tmod] at x1
        omega
      · have x1 := Int.tmod_nonneg (a := a) b h
        omega
  have hl : na b < na r := by
    unfold na
    rw [hr]
    have x1 := Int.natAbs_tmod a b
    have x2 := Nat.mod_lt a.natAbs (show 0 < b.natAbs by omega)
    rw [← x1] at x2
    split <;> split <;> omega
  have hrr : Rng r := by
    unfold na at hl
    unfold Rng at *
    split at hl <;> split at hl <;> omega
  have h5 := fun w => less16 r b w hrr.1 hrr.2 hbb.1 hbb.2 hl
  have hz0 : (b == 0) = false := beq_eq_false_iff_ne.2 h0
  have H1 := Lib.hid h1
  have H2 := Lib.hid h2
  have H3 := Lib.hid h3
  have H4 := Lib.hid h4
  have H5 := Lib.hid h5
  clear h1 h2 h3 h4 h5 hs hl hq hr hp h0
  rcases hsg with hsg | ⟨hsg, hsi⟩
  · have t1 : (r == 0) = true := beq_iff_eq.2 hsg
    clear hsg
    go_enter Try.func5, Try.ntmps5
    go_wp2_with fail
    refine (H1.out _).mono ?_
    rintro e w' ⟨rfl, rfl⟩
    go_wp2_with fail
    refine (H2.out _).mono ?_
    rintro e w' ⟨rfl, rfl⟩
    go_wp2_with fail
    refine (H3.out _).mono ?_
    rintro e w' ⟨rfl, rfl⟩
    go_wp2_with fail
    refine (H4.out _).mono ?_
    rintro e w' ⟨rfl, rfl⟩
    go_wp2_with fail
    refine (H5.out _).mono ?_
    rintro e w' ⟨rfl, rfl⟩
    go_wp2_with fail
    refine (known9 _).mono ?_
    rintro e w' ⟨rfl, hb⟩
    go_wp2_with fail
    go_ret
    exact ⟨rfl, hb⟩
  · have t1 : (r == 0) = false := beq_eq_false_iff_ne.2 hsg
    have t2 : (decide (r < 0) == decide (a < 0)) = true := by rw [beq_iff_eq, decide_eq_decide]; exact hsi
    clear hsg hsi
    go_enter Try.func5, Try.ntmps5
    go_wp2_with fail
    refine (H1.out _).mono ?_
    rintro e w' ⟨rfl, rfl⟩
    go_wp2_with fail
    refine (H2.out _).mono ?_
    rintro e w' ⟨rfl, rfl⟩
    go_wp2_with fail
    refine (H3.out _).mono ?_
    rintro e w' ⟨rfl, rfl⟩
    go_wp2_with fail
    refine (H4.out _).mono ?_
    rintro e w' ⟨rfl, rfl⟩
    go_wp2_with fail
    refine (H5.out _).mono ?_
    rintro e w' ⟨rfl, rfl⟩
    go_wp2_with fail
    refine (known9 _).mono ?_
    rintro e w' ⟨rfl, hb⟩
    go_wp2_with fail
    go_ret
    exact ⟨rfl, hb⟩

set_option maxHeartbeats 2000000 in
theorem texts_walk (n : Int) (s : ByteArray) (w : World) (ha : Rng n) (hs : s.size ≤ maxLen) : Calls Try.prog 4 #[.int .i64 n, .string s] w fun e w' => e = .returned (.bool true) ∧ Below w.heap.size w w' := by
  obtain ⟨x, e, hx, _⟩ := read10 s w hs
  have h1 : ∀ w, Calls Try.prog 10 #[.string s] w fun e' w' => e' = .returned (.tuple #[.int .i64 x, .int .i64 e]) ∧ Below w.heap.size w w' := by
    intro w
    obtain ⟨x', e', hx', hc⟩ := read10 s w hs
    obtain ⟨rfl, rfl⟩ := readIs_one hx hx'
    exact hc
  have h2 : ∀ w, Calls Try.prog 11 #[.string s] w fun e' w' => e' = .returned (.tuple #[.int .i64 x, .int .i64 e]) ∧ w = w' := by
    intro w
    obtain ⟨x', e', hx', hc⟩ := read11 s w
    obtain ⟨rfl, rfl⟩ := readIs_one hx hx'
    exact hc
  have h3 := fun w => text12B n w ha.1 ha.2
  have hsz : (txtB n).size ≤ maxLen := by
    unfold Rng at ha
    unfold maxLen
    rw [Lib.size_eq]
    have := dec_len n.natAbs 18 (by omega)
    show (txt n).length ≤ _
    unfold txt
    split
    · simp; omega
    · omega
  have h4 : ∀ w, Calls Try.prog 10 #[.string (txtB n)] w fun e' w' => e' = .returned (.tuple #[.int .i64 n, .int .i64 0]) ∧ Below w.heap.size w w' := by
    intro w
    obtain ⟨x', e', hx', hc⟩ := read10 (txtB n) w hsz
    obtain ⟨rfl, rfl⟩ := readIs_one hx' (.inl ⟨n, ha, rfl, rfl, rfl⟩)
    exact hc
  have h5 := fun w => text13 n w ha.1 ha.2
  have h6 := show14 n
  have h7 := show15 n
  generalize txtB n = tb at *
  generalize showB n = sb at *
  have H1 := Lib.hid h1
  have H2 := Lib.hid h2
  have H3 := Lib.hid h3
  have H4 := Lib.hid h4
  have H5 := Lib.hid h5
  have H6 := Lib.hid h6
  have H7 := Lib.hid h7
  clear h1 h2 h3 h4 h5 h6 h7 hx hsz ha hs
  go_enter Try.func4, Try.ntmps4
  go_wp2_with fail
  refine (H1.out _).mono ?_
  rintro e w1 ⟨rfl, hb1⟩
  go_wp2_with fail
  refine (H2.out _).mono ?_
  rintro e w' ⟨rfl, rfl⟩
  go_wp2_with fail
  refine (H3.out _).mono ?_
  rintro e w' ⟨rfl, o, rfl⟩
  go_wp2_with fail
  refine (H4.out _).mono ?_
  rintro e w2 ⟨rfl, hb2⟩
  go_wp2_with fail
  refine (H3.out _).mono ?_
  rintro e w' ⟨rfl, o', rfl⟩
  go_wp2_with fail
  refine (H5.out _).mono ?_
  rintro e w' ⟨rfl, rfl⟩
  go_wp2_with fail
  refine (H6.out _).mono ?_
  rintro e w' ⟨rfl, rfl⟩
  go_wp2_with fail
  refine (H7.out _).mono ?_
  rintro e w' ⟨rfl, rfl⟩
  go_wp2_with fail
  refine (known9 _).mono ?_
  rintro e w3 ⟨rfl, hb3⟩
  go_wp2_with fail
  go_ret
  have z1 := hb1.size
  have z2 := hb2.size
  simp at z2
  exact ⟨rfl, ((((hb1.alloc z1 o).trans (hb2.mono (by simp; omega))).alloc (by omega) o').trans (hb3.mono (by simp; omega)))⟩

end Go.Proofs.Ytefiliomfiomfab
