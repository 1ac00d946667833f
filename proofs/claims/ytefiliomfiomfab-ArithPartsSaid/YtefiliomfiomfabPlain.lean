/- Digits and numbers, there and back; Read of arith and of its reference answer the same; known. -/
import Derived.Test.YtefiliomfiomfabRef
import Derived.Test.YtefiliomfiomfabDo
namespace Go.Proofs.Ytefiliomfiomfab
open Go.RowKit

theorem dig_toNat (n : Nat) (h : n < 10) : (48 + UInt8.ofNat n).toNat = 48 + n := by
  simp [UInt8.toNat_add, UInt8.toNat_ofNat]; omega
theorem dec_digits (n : Nat) : ∀ c ∈ dec n, 48 ≤ c.toNat ∧ c.toNat ≤ 57 := by
  induction n using Nat.strongRecOn with
  | ind n ih =>
    by_cases h : n < 10
    · rw [dec_small h]
      intro c hc
      rw [List.mem_singleton] at hc
      subst hc
      rw [dig_toNat n h]; omega
    · rw [dec_big h]
      intro c hc
      rw [List.mem_append, List.mem_singleton] at hc
      rcases hc with hc | hc
      · exact ih _ (by omega) c hc
      · subst hc
        rw [dig_toNat _ (by omega)]; omega
theorem foldU_snoc (l : List UInt8) (c : UInt8) : foldU (l ++ [c]) = stepU (foldU l) c := by simp [foldU]
theorem foldN_snoc (l : List UInt8) (c : UInt8) : foldN (l ++ [c]) = stepN (foldN l) c := by simp [foldN]
theorem foldU_dec (n : Nat) : n < 18446744073709551616 → foldU (dec n) = n := by
  induction n using Nat.strongRecOn with
  | ind n ih =>
    intro hn
    by_cases h : n < 10
    · rw [dec_small h]
      show stepU 0 _ = _
      unfold stepU
      rw [dig_toNat n h, IntKind.wrap_u64, IntKind.wrap_u64]
      omega
    · rw [dec_big h, foldU_snoc, ih _ (by omega) (by omega)]
      unfold stepU
      rw [dig_toNat _ (by omega), IntKind.wrap_u64, IntKind.wrap_u64]
      omega
theorem foldN_dec (n : Nat) : n ≤ 9223372036854775808 → foldN (dec n) = -(n : Int) := by
  induction n using Nat.strongRecOn with
  | ind n ih =>
    intro hn
    by_cases h : n < 10
    · rw [dec_small h]
      show stepN 0 _ = _
      unfold stepN
      rw [dig_toNat n h, if_pos (by omega)]
      unfold wrap64
      omega
    · rw [dec_big h, foldN_snoc, ih _ (by omega) (by omega)]
      unfold stepN
      rw [dig_toNat _ (by omega), if_pos (by omega)]
      unfold wrap64
      omega
theorem neg_eq (s : ByteArray) : neg s = (s.data.toList.take 1 == [45]) := by
  unfold neg
  rw [Lib.toList_data, Lib.extract_data]
  rfl
theorem cutR_data (s : ByteArray) : (cutR s).data.toList = if neg s then s.data.toList.drop 1 else s.data.toList := by
  unfold cutR
  split
  · rw [Lib.extract_to_end]
  · rfl
theorem dec_head (n : Nat) : ∃ c l, dec n = c :: l ∧ c ≠ 45 := by
  cases h : dec n with
  | nil => exact absurd h (dec_ne n)
  | cons c l =>
    refine ⟨c, l, rfl, ?_⟩
    have := dec_digits n c (by rw [h]; exact List.mem_cons_self ..)
    intro e
    subst e
    simp at this

def Rng (m : Int) : Prop := -9223372036854775808 ≤ m ∧ m ≤ 9223372036854775807
def ReadIs (s : ByteArray) (n e : Int) : Prop := (∃ m, Rng m ∧ txt m = s.data.toList ∧ n = m ∧ e = 0) ∨ ((∀ m, Rng m → txt m ≠ s.data.toList) ∧ n = 0 ∧ e = 5)

theorem neg_txt {s : ByteArray} {m : Int} (h : txt m = s.data.toList) : neg s = decide (m < 0) ∧ (cutR s).data.toList = dec m.natAbs := by
  have e1 : neg s = decide (m < 0) := by
    rw [neg_eq, ← h]
    unfold txt
    by_cases hm : m < 0
    · rw [if_pos hm]; simp [hm]
    · rw [if_neg hm]
      obtain ⟨c, l, hc, hne⟩ := dec_head m.natAbs
      rw [hc]
      simp [hm, hne]
  refine ⟨e1, ?_⟩
  rw [cutR_data, e1, ← h]
  unfold txt
  by_cases hm : m < 0
  · simp [hm]
  · simp [hm]
theorem txt_inj {m n : Int} (hm : Rng m) (hn : Rng n) (h : txt m = txt n) : m = n := by
  have a := neg_txt (s := txtB n) (m := m) (by rw [h]; rfl)
  have b := neg_txt (s := txtB n) (m := n) rfl
  have e := a.1.symm.trans b.1
  rw [decide_eq_decide] at e
  have f := congrArg foldU (a.2.symm.trans b.2)
  unfold Rng at hm hn
  rw [foldU_dec _ (by omega), foldU_dec _ (by omega)] at f
  omega
theorem readIs_one {s : ByteArray} {n e n' e' : Int} (h : ReadIs s n e) (h' : ReadIs s n' e') : n = n' ∧ e = e' := by
  rcases h with ⟨m, r, t, rfl, rfl⟩ | ⟨h, rfl, rfl⟩
  · rcases h' with ⟨m', r', t', rfl, rfl⟩ | ⟨h', _, _⟩
    · exact ⟨txt_inj r r' (t.trans t'.symm), rfl⟩
    · exact absurd t (h' _ r)
  · rcases h' with ⟨m', r', t', _, _⟩ | ⟨_, rfl, rfl⟩
    · exact absurd t' (h _ r')
    · exact ⟨rfl, rfl⟩

theorem below_o {w w' : World} (h : ∃ o, w' = w.alloc o) : Below w.heap.size w w' := by
  obtain ⟨o, rfl⟩ := h
  exact (Below.refl _ _).alloc (Nat.le_refl _) _
theorem below_e {w w' : World} (h : w = w') : Below w.heap.size w w' := by
  subst h
  exact Below.refl _ _

/-- arith.Read -/
theorem read10 (s : ByteArray) (w : World) (hs : s.size ≤ maxLen) : ∃ n err, ReadIs s n err ∧ Calls Try.prog 10 #[.string s] w fun e w' =>
    e = .returned (.tuple #[.int .i64 n, .int .i64 err]) ∧ Below w.heap.size w w' := by
  by_cases h : (cutR s).size < 1 ∨ 20 ≤ (cutR s).size
  · refine ⟨0, 5, .inr ⟨?_, rfl, rfl⟩, (read10_short s w hs h).mono fun e w' ⟨a, b⟩ => ⟨a, below_e b⟩⟩
    intro m r t
    have b := (neg_txt t).2
    unfold Rng at r
    have l := dec_len m.natAbs 18 (by omega)
    have z := dec_ne m.natAbs
    rw [← b, ← Lib.size_eq] at l
    have y : (cutR s).size ≠ 0 := by
      intro y
      rw [Lib.size_eq, b] at y
      exact z (List.eq_nil_of_length_eq_zero y)
    omega
  · have hn : ∀ m, Rng m → txt m = s.data.toList → numOf (neg s) (cutR s).data.toList = m := by
      intro m r t
      obtain ⟨a, b⟩ := neg_txt t
      unfold Rng at r
      rw [a, b]
      unfold numOf
      rw [foldU_dec _ (by omega)]
      unfold wrap64
      by_cases hm : m < 0
      · simp only [hm, decide_true, if_true]; omega
      · simp only [hm, decide_false, Bool.false_eq_true, if_false]; omega
    have hR : Rng (numOf (neg s) (cutR s).data.toList) := by
      unfold numOf Rng wrap64
      split <;> omega
    by_cases ht : (txtB (numOf (neg s) (cutR s).data.toList)).toList = s.toList
    · refine ⟨_, 0, .inl ⟨_, hR, (by rw [txtB_list, Lib.toList_data] at ht; exact ht), rfl, rfl⟩, ?_⟩
      cases hb : neg s with
      | true =>
        rw [hb] at ht
        exact (read10_true_yes s w hs hb _ rfl (by omega) (by omega) _ rfl ht).mono fun e w' ⟨a, b⟩ => ⟨a, below_o b⟩
      | false =>
        rw [hb] at ht
        exact (read10_false_yes s w hs hb _ rfl (by omega) (by omega) _ rfl ht).mono fun e w' ⟨a, b⟩ => ⟨a, below_o b⟩
    · refine ⟨0, 5, .inr ⟨?_, rfl, rfl⟩, ?_⟩
      · intro m r t
        rw [hn m r t, txtB_list, Lib.toList_data] at ht
        exact ht t
      · cases hb : neg s with
        | true =>
          rw [hb] at ht
          exact (read10_true_no s w hs hb _ rfl (by omega) (by omega) _ rfl ht).mono fun e w' ⟨a, b⟩ => ⟨a, below_o b⟩
        | false =>
          rw [hb] at ht
          exact (read10_false_no s w hs hb _ rfl (by omega) (by omega) _ rfl ht).mono fun e w' ⟨a, b⟩ => ⟨a, below_o b⟩

theorem foldN_cons45 (l : List UInt8) : foldN (45 :: l) = foldN l := rfl
theorem foldN_rng (l : List UInt8) : Rng (foldN l) := by
  suffices h : ∀ l : List UInt8, ∀ a, Rng a → Rng (l.foldl stepN a) from h l 0 (by unfold Rng; omega)
  intro l
  induction l with
  | nil => intro a ha; exact ha
  | cons c l ih =>
    intro a ha
    refine ih _ ?_
    unfold stepN
    split
    · unfold Rng wrap64; omega
    · exact ha
theorem get0 (s : ByteArray) (h : 0 < s.size) : ∃ l, s.data.toList = s[0] :: l := by
  obtain ⟨⟨l⟩⟩ := s
  cases l with
  | nil => exact absurd h (by simp [ByteArray.size])
  | cons c l => exact ⟨l, rfl⟩

/-- the reference's Read -/
theorem read11 (s : ByteArray) (w : World) : ∃ n err, ReadIs s n err ∧ Calls Try.prog 11 #[.string s] w fun e w' =>
    e = .returned (.tuple #[.int .i64 n, .int .i64 err]) ∧ w = w' := by
  have hl : ∀ m, Rng m → txt m = s.data.toList → s.size ≤ 20 ∧ s.size ≠ 0 := by
    intro m r t
    unfold Rng at r
    have l := dec_len m.natAbs 18 (by omega)
    have z := dec_ne m.natAbs
    rw [Lib.size_eq, ← t]
    unfold txt
    split
    · simp; omega
    · exact ⟨by omega, fun y => z (List.eq_nil_of_length_eq_zero y)⟩
  by_cases h20 : 20 < s.size
  · refine ⟨0, 5, .inr ⟨?_, rfl, rfl⟩, read11_long s w h20⟩
    intro m r t
    have := hl m r t
    omega
  have hf : ∀ m, Rng m → txt m = s.data.toList → foldN s.data.toList = -(m.natAbs : Int) := by
    intro m r t
    unfold Rng at r
    rw [← t]
    unfold txt
    split
    · rw [foldN_cons45, foldN_dec _ (by omega)]
    · rw [foldN_dec _ (by omega)]
  have hr := foldN_rng s.data.toList
  have hw : ∀ F, Rng (wrap64 (-F)) := fun F => ⟨wrap64_lo _, wrap64_hi _⟩
  by_cases h0 : s.size = 0
  · by_cases ht : (txtB (wrap64 (-foldN s.data.toList))).toList = s.toList
    · exact ⟨_, 0, .inl ⟨_, hw _, (by rw [txtB_list, Lib.toList_data] at ht; exact ht), rfl, rfl⟩, read11_empty_yes s w (by omega) h0 _ rfl ht⟩
    · refine ⟨0, 5, .inr ⟨?_, rfl, rfl⟩, read11_empty_no s w (by omega) h0 _ rfl ht⟩
      intro m r t
      exact (hl m r t).2 h0
  have hp : 0 < s.size := by omega
  obtain ⟨l, e0⟩ := get0 s hp
  have hh : ∀ m, Rng m → txt m = s.data.toList → ((((s[0]'hp).toNat : Int) = 45) ↔ m < 0) := by
    intro m r t
    rw [e0] at t
    generalize s[0]'hp = c at *
    unfold txt at t
    by_cases hm : m < 0
    · rw [if_pos hm] at t
      injection t with t _
      subst t
      simp [hm]
    · rw [if_neg hm] at t
      have := dec_digits m.natAbs c (by rw [t]; exact List.mem_cons_self ..)
      omega
  by_cases hc : ((s[0]'hp).toNat : Int) = 45
  · by_cases ht : (txtB (foldN s.data.toList)).toList = s.toList
    · exact ⟨_, 0, .inl ⟨_, hr, (by rw [txtB_list, Lib.toList_data] at ht; exact ht), rfl, rfl⟩, read11_neg_yes s w (by omega) hp hc _ rfl hr.1 hr.2 ht⟩
    · refine ⟨0, 5, .inr ⟨?_, rfl, rfl⟩, read11_neg_no s w (by omega) hp hc _ rfl hr.1 hr.2 ht⟩
      intro m r t
      have a := (hh m r t).1 hc
      rw [hf m r t, show -(m.natAbs : Int) = m by omega, txtB_list, Lib.toList_data] at ht
      exact ht t
  · by_cases ht : (txtB (wrap64 (-foldN s.data.toList))).toList = s.toList
    · exact ⟨_, 0, .inl ⟨_, hw _, (by rw [txtB_list, Lib.toList_data] at ht; exact ht), rfl, rfl⟩, read11_plain_yes s w (by omega) hp hc _ rfl ht⟩
    · refine ⟨0, 5, .inr ⟨?_, rfl, rfl⟩, read11_plain_no s w (by omega) hp hc _ rfl ht⟩
      intro m r t
      have a : ¬ m < 0 := fun y => hc ((hh m r t).2 y)
      have r' := r
      unfold Rng at r'
      rw [hf m r t, show wrap64 (-(-(m.natAbs : Int))) = m by unfold wrap64; omega, txtB_list, Lib.toList_data] at ht
      exact ht t

theorem txtB_12 : txtB (-12) = ⟨#[45, 49, 50]⟩ := by
  have e : txt (-12) = [45, 49, 50] := by
    unfold txt
    rw [if_pos (by omega)]
    show 45 :: dec 12 = _
    rw [dec_big (by omega), dec_small (by omega)]
    rfl
  unfold txtB
  rw [e]
set_option maxHeartbeats 1000000 in
theorem known9 (w : World) : Calls Try.prog 9 #[] w fun e w' => e = .returned (.bool true) ∧ Below w.heap.size w w' := by
  have h1 := do7 12 4611686018427387904 4
  have e1 : doF 12 4611686018427387904 4 = (0, 0) := by decide +kernel
  have h2 := do7 14 (-7) 2
  have e2 : doF 14 (-7) 2 = (-1, 0) := by decide +kernel
  rw [e1] at h1
  rw [e2] at h2
  have h3 : ∀ w, Calls Try.prog 10 #[.string ⟨#[45, 48]⟩] w fun e w' => e = .returned (.tuple #[.int .i64 0, .int .i64 5]) ∧ Below w.heap.size w w' := by
    intro w
    obtain ⟨n, err, hr, hc⟩ := read10 ⟨#[45, 48]⟩ w (by decide)
    have : n = 0 ∧ err = 5 := by
      refine readIs_one hr (.inr ⟨?_, rfl, rfl⟩)
      intro m r t
      obtain ⟨a, b⟩ := neg_txt t
      have a' : neg ⟨#[45, 48]⟩ = true := by rw [neg_eq]; rfl
      have f := congrArg foldU b
      rw [cutR_data, a', foldU_dec _ (by unfold Rng at r; omega)] at f
      rw [a'] at a
      have f' : (0 : Int) = m.natAbs := f
      have := of_decide_eq_true a.symm
      omega
    obtain ⟨rfl, rfl⟩ := this
    exact hc
  have h4 := text12B (-12) (hlo := by omega) (hhi := by omega)
  rw [txtB_12] at h4
  have h5 := show14 1
  have e5 : showB 1 = ⟨#[116, 114, 117, 101]⟩ := by unfold showB; rw [if_pos rfl]
  rw [e5] at h5
  have H1 := Lib.hid h1
  have H2 := Lib.hid h2
  have H3 := Lib.hid h3
  have H4 := Lib.hid h4
  have H5 := Lib.hid h5
  clear h1 h2 h3 h4 h5 e1 e2 e5
  go_enter Try.func9, Try.ntmps9
  go_wp2_with fail
  refine (H1.out _).mono ?_
  rintro e w' ⟨rfl, rfl⟩
  go_wp2_with fail
  refine (H2.out _).mono ?_
  rintro e w' ⟨rfl, rfl⟩
  go_wp2_with fail
  refine (H3.out _).mono ?_
  rintro e w1 ⟨rfl, hb⟩
  go_wp2_with fail
  refine (H4.out _).mono ?_
  rintro e w2 ⟨rfl, o, rfl⟩
  go_wp2_with fail
  refine (H5.out _).mono ?_
  rintro e w3 ⟨rfl, rfl⟩
  go_wp2_with fail
  go_ret
  exact ⟨rfl, hb.alloc hb.size _⟩

end Go.Proofs.Ytefiliomfiomfab
