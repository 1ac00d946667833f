/- The reference's Name. -/
import Derived.Test.YtefiliomfiomfaaName
namespace Go.Proofs.Ytefiliomfiomfaa
open Go.RowKit

/-- The ways through the tests on a byte: a small letter; a great one; the low line; a digit; else, by its place. -/
theorem ways (c : Int) : (97 ≤ c ∧ c ≤ 122) ∨ (97 ≤ c ∧ ¬ c ≤ 122) ∨ (¬ 97 ≤ c ∧ 65 ≤ c ∧ c ≤ 90) ∨ (¬ 97 ≤ c ∧ 65 ≤ c ∧ ¬ c ≤ 90 ∧ (c == 95) = true) ∨ (¬ 97 ≤ c ∧ 65 ≤ c ∧ ¬ c ≤ 90 ∧ (c == 95) = false) ∨ (¬ 97 ≤ c ∧ ¬ 65 ≤ c ∧ 48 ≤ c ∧ c ≤ 57) ∨ (¬ 97 ≤ c ∧ ¬ 65 ≤ c ∧ 48 ≤ c ∧ ¬ c ≤ 57) ∨ (¬ 97 ≤ c ∧ ¬ 65 ≤ c ∧ ¬ 48 ≤ c) := by
  by_cases h : c = 95
  · subst h; decide
  · have : (c == 95) = false := by rw [beq_eq_false_iff_ne]; exact h
    rw [this]
    simp
    omega
theorem name8_size (s : ByteArray) (w : World) (h : ¬ (1 ≤ s.size ∧ s.size ≤ 24)) : Calls Try.prog 8 #[.string s] w fun e w' => e = .returned (.bool (nmB s)) ∧ w = w' := by
  have hn : Hid (nmB s = false) := nmB_false fun n => h ⟨n.1, n.2.1⟩
  by_cases h1 : 1 ≤ s.size
  · have h2 : 24 < s.size := by omega
    have d1 : decide ((s.size : Int) < 1) = false := by rw [decide_eq_false_iff_not]; omega
    have d2 : decide ((24 : Int) < (s.size : Int)) = true := by rw [decide_eq_true_iff]; omega
    have d3 : decide (24 < s.size) = true := by rw [decide_eq_true_iff]; omega
    clear h
    go_enter Try.func8, Try.ntmps8
    go_wp2
    go_ret
    exact ⟨(by rw [hn.out]; rfl), rfl⟩
  · have d1 : decide ((s.size : Int) < 1) = true := by rw [decide_eq_true_iff]; omega
    clear h h1
    go_enter Try.func8, Try.ntmps8
    go_wp2
    go_ret
    exact ⟨(by rw [hn.out]; rfl), rfl⟩
set_option maxRecDepth 100000 in
set_option maxHeartbeats 8000000 in
theorem name8_loop (s : ByteArray) (w : World) (h1 : 1 ≤ s.size) (h2 : s.size ≤ 24) :
    Calls Try.prog 8 #[.string s] w fun e w' => e = .returned (.bool (nmB s)) ∧ w = w' := by
  go_enter Try.func8, Try.ntmps8
  go_wp2
  go_loop [3] (fun i => ∃ k : Nat, k ≤ s.size ∧ i = .int .i64 k ∧ Hid (∀ j (h : j < s.size), j < k → Okc s j h)) (fun i => s.size - (intOf i).toNat)
  case atStart => exact ⟨0, Nat.zero_le _, rfl, fun j _ h => absurd h (Nat.not_lt_zero _)⟩
  case round =>
    obtain ⟨k, hk, rfl, hall⟩ := hrel
    by_cases hlt : k < s.size
    · obtain ⟨c, hc⟩ : ∃ c : Int, ((s[k]'hlt).toNat : Int) = c := ⟨_, rfl⟩
      have hW := ways c
      have hokc : Hid (letB c = true ∨ (digB c = true ∧ k ≠ 0) → Okc s k hlt) := by
        intro h
        unfold Okc
        rw [hc]
        exact h
      have hnok : Hid (¬ (letB c = true ∨ (digB c = true ∧ k ≠ 0)) → nmB s = false) := by
        intro h
        refine nmB_false fun n => h ?_
        have := n.2.2 k hlt
        unfold Okc at this
        rw [hc] at this
        exact this
      rcases hW with ⟨a1, a2⟩ | ⟨a1, a2⟩ | ⟨a1, a2, a3⟩ | ⟨a1, a2, a3, a4⟩ | ⟨a1, a2, a3, a4⟩ | ⟨a1, a2, a3, a4⟩ | ⟨a1, a2, a3, a4⟩ | ⟨a1, a2, a3⟩
      · have b3 : 48 ≤ c := by omega
        have b4 : ¬ c ≤ 57 := by omega
        have hok : Hid (Okc s k hlt) := hokc.out (.inl (by unfold letB; simp; omega))
        clear hokc hnok
        go_wp2
        go_round
        case rel =>
          refine ⟨k + 1, by omega, by go_num, fun j h hj => ?_⟩
          by_cases e : j = k
          · subst e; exact hok
          · exact hall.out j h (by omega)
        case measure => simp [intOf]; omega
      · have g95 : (c == 95) = false := by rw [beq_eq_false_iff_ne]; omega
        have b1 : 65 ≤ c := by omega
        have b2 : ¬ c ≤ 90 := by omega
        have b3 : 48 ≤ c := by omega
        have b4 : ¬ c ≤ 57 := by omega
        have hn : Hid (nmB s = false) := hnok.out (by
          rintro (h | h)
          · unfold letB at h; rw [g95, Bool.or_false] at h; simp at h; omega
          · have h := h.1; unfold digB at h; simp at h; omega)
        clear hokc hnok
        go_wp2
        go_ret
        exact ⟨(by rw [hn.out]; rfl), rfl⟩
      · have b3 : 48 ≤ c := by omega
        have b4 : ¬ c ≤ 57 := by omega
        have hok : Hid (Okc s k hlt) := hokc.out (.inl (by unfold letB; simp; omega))
        clear hokc hnok
        go_wp2
        go_round
        case rel =>
          refine ⟨k + 1, by omega, by go_num, fun j h hj => ?_⟩
          by_cases e : j = k
          · subst e; exact hok
          · exact hall.out j h (by omega)
        case measure => simp [intOf]; omega
      · have b3 : 48 ≤ c := by omega
        have b4 : ¬ c ≤ 57 := by omega
        have hok : Hid (Okc s k hlt) := hokc.out (.inl (by unfold letB; rw [a4, Bool.or_true]))
        clear hokc hnok
        go_wp2
        go_round
        case rel =>
          refine ⟨k + 1, by omega, by go_num, fun j h hj => ?_⟩
          by_cases e : j = k
          · subst e; exact hok
          · exact hall.out j h (by omega)
        case measure => simp [intOf]; omega
      · have b3 : 48 ≤ c := by omega
        have b4 : ¬ c ≤ 57 := by omega
        have hn : Hid (nmB s = false) := hnok.out (by
          rintro (h | h)
          · unfold letB at h; rw [a4, Bool.or_false] at h; simp at h; omega
          · have h := h.1; unfold digB at h; simp at h; omega)
        clear hokc hnok
        go_wp2
        go_ret
        exact ⟨(by rw [hn.out]; rfl), rfl⟩
      · have g95 : (c == 95) = false := by rw [beq_eq_false_iff_ne]; omega
        by_cases h0 : k = 0
        · have hn : Hid (nmB s = false) := hnok.out (by
            rintro (h | h)
            · unfold letB at h; rw [g95, Bool.or_false] at h; simp at h; omega
            · exact h.2 h0)
          have g0 : ((k : Int) == 0) = true := by rw [beq_iff_eq]; omega
          clear hokc hnok h0
          go_wp2
          go_ret
          exact ⟨(by rw [hn.out]; rfl), rfl⟩
        · have hok : Hid (Okc s k hlt) := hokc.out (.inr ⟨by unfold digB; simp; omega, h0⟩)
          have g0 : ((k : Int) == 0) = false := by rw [beq_eq_false_iff_ne]; omega
          clear hokc hnok h0
          go_wp2
          go_round
          case rel =>
            refine ⟨k + 1, by omega, by go_num, fun j h hj => ?_⟩
            by_cases e : j = k
            · subst e; exact hok
            · exact hall.out j h (by omega)
          case measure => simp [intOf]; omega
      · have g95 : (c == 95) = false := by rw [beq_eq_false_iff_ne]; omega
        have hn : Hid (nmB s = false) := hnok.out (by
          rintro (h | h)
          · unfold letB at h; rw [g95, Bool.or_false] at h; simp at h; omega
          · have h := h.1; unfold digB at h; simp at h; omega)
        clear hokc hnok
        go_wp2
        go_ret
        exact ⟨(by rw [hn.out]; rfl), rfl⟩
      · have g95 : (c == 95) = false := by rw [beq_eq_false_iff_ne]; omega
        have hn : Hid (nmB s = false) := hnok.out (by
          rintro (h | h)
          · unfold letB at h; rw [g95, Bool.or_false] at h; simp at h; omega
          · have h := h.1; unfold digB at h; simp at h; omega)
        clear hokc hnok
        go_wp2
        go_ret
        exact ⟨(by rw [hn.out]; rfl), rfl⟩
    · have hn : Hid (nmB s = true) := nmB_true ⟨h1, h2, fun j h => hall.out j h (by omega)⟩
      go_wp2
      go_ret
      exact ⟨(by rw [hn.out]; rfl), rfl⟩
theorem name8 (s : ByteArray) (w : World) : Calls Try.prog 8 #[.string s] w fun e w' => e = .returned (.bool (nmB s)) ∧ w = w' := by
  by_cases h : 1 ≤ s.size ∧ s.size ≤ 24
  · exact name8_loop s w h.1 h.2
  · exact name8_size s w h
end Go.Proofs.Ytefiliomfiomfaa
