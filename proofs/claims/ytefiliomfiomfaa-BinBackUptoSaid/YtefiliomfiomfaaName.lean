/- bin.Name and the reference's Name. -/
import Derived.Test.YtefiliomfiomfaaRows
import Derived.WalkKit
import Derived.WalkSpells
import Derived.WalkLawsBesides
import Derived.Handy
import Derived.Lib.Hide
import Derived.Lib.IndexBytes
namespace Go.Proofs.Ytefiliomfiomfaa
open Go.RowKit

def digB (c : Int) : Bool := decide (48 ≤ c) && decide (c ≤ 57)
def letB (c : Int) : Bool := (decide (97 ≤ c) && decide (c ≤ 122)) || (decide (65 ≤ c) && decide (c ≤ 90)) || c == 95
theorem digit20 (c : Int) (w : World) : Calls Try.prog 20 #[.int .u8 c] w fun e w' => e = .returned (.bool (digB c)) ∧ w = w' := by
  by_cases h1 : 48 ≤ c
  · by_cases h2 : c ≤ 57
    · have H : Hid (digB c = true) := by show _ = _; simp [digB, h1, h2]
      go_enter Try.func20, Try.ntmps20
      go_wp2
      go_ret
      exact ⟨(by rw [H.out]; rfl), rfl⟩
    · have H : Hid (digB c = false) := by show _ = _; simp [digB, h2]
      go_enter Try.func20, Try.ntmps20
      go_wp2
      go_ret
      exact ⟨(by rw [H.out]; rfl), rfl⟩
  · have H : Hid (digB c = false) := by show _ = _; simp [digB, h1]
    go_enter Try.func20, Try.ntmps20
    go_wp2
    go_ret
    exact ⟨(by rw [H.out]; rfl), rfl⟩
theorem letter21 (c : Int) (w : World) : Calls Try.prog 21 #[.int .u8 c] w fun e w' => e = .returned (.bool (letB c)) ∧ w = w' := by
  have go : ∀ r, letB c = r → ((97 ≤ c ∧ c ≤ 122) ∧ r = true ∨ (97 ≤ c ∧ ¬ c ≤ 122) ∧ r = false ∨ (¬ 97 ≤ c ∧ 65 ≤ c ∧ c ≤ 90) ∧ r = true ∨ (¬ 97 ≤ c ∧ 65 ≤ c ∧ ¬ c ≤ 90 ∧ c = 95) ∧ r = true ∨ (¬ 97 ≤ c ∧ 65 ≤ c ∧ ¬ c ≤ 90 ∧ ¬ c = 95) ∧ r = false ∨ (¬ 97 ≤ c ∧ ¬ 65 ≤ c) ∧ r = false) := by
    intro r hr
    subst hr
    unfold letB
    by_cases h1 : 97 ≤ c
    · by_cases h2 : c ≤ 122
      · simp [h1, h2]
      · simp [h1, h2]; omega
    · by_cases h3 : 65 ≤ c
      · by_cases h4 : c ≤ 90
        · simp [h1, h3, h4]
        · by_cases h5 : c = 95
          · simp [h5]
          · simp [h1, h3, h4, h5]
      · simp [h1, h3]; omega
  rcases go _ rfl with ⟨⟨h1, h2⟩, h⟩ | ⟨⟨h1, h2⟩, h⟩ | ⟨⟨h1, h2, h3⟩, h⟩ | ⟨⟨h1, h2, h3, h4⟩, h⟩ | ⟨⟨h1, h2, h3, h4⟩, h⟩ | ⟨⟨h1, h2⟩, h⟩
  · have H := Lib.hid h
    clear h go
    go_enter Try.func21, Try.ntmps21
    go_wp2
    go_ret
    exact ⟨(by rw [H.out]; rfl), rfl⟩
  · have g : (c == 95) = false := by rw [beq_eq_false_iff_ne]; omega
    have h3 : ¬ c ≤ 90 := by omega
    have h4 : 65 ≤ c := by omega
    have H := Lib.hid h
    clear h go
    go_enter Try.func21, Try.ntmps21
    go_wp2
    go_ret
    exact ⟨(by rw [H.out]; rfl), rfl⟩
  · have H := Lib.hid h
    clear h go
    go_enter Try.func21, Try.ntmps21
    go_wp2
    go_ret
    exact ⟨(by rw [H.out]; rfl), rfl⟩
  · have g : (c == 95) = true := by rw [beq_iff_eq]; exact h4
    have H := Lib.hid h
    clear h go h4
    go_enter Try.func21, Try.ntmps21
    go_wp2
    go_ret
    exact ⟨(by rw [H.out]; rfl), rfl⟩
  · have g : (c == 95) = false := by rw [beq_eq_false_iff_ne]; exact h4
    have H := Lib.hid h
    clear h go h4
    go_enter Try.func21, Try.ntmps21
    go_wp2
    go_ret
    exact ⟨(by rw [H.out]; rfl), rfl⟩
  · have g : (c == 95) = false := by rw [beq_eq_false_iff_ne]; omega
    have H := Lib.hid h
    clear h go
    go_enter Try.func21, Try.ntmps21
    go_wp2
    go_ret
    exact ⟨(by rw [H.out]; rfl), rfl⟩

def Okc (s : ByteArray) (j : Nat) (h : j < s.size) : Prop := letB ((s[j]'h).toNat : Int) = true ∨ (digB ((s[j]'h).toNat : Int) = true ∧ j ≠ 0)
def Nm (s : ByteArray) : Prop := 1 ≤ s.size ∧ s.size ≤ 24 ∧ ∀ j (h : j < s.size), Okc s j h
open Classical in
noncomputable def nmB (s : ByteArray) : Bool := decide (Nm s)
open Classical in
theorem nmB_true {s : ByteArray} (h : Nm s) : nmB s = true := by unfold nmB; exact decide_eq_true h
open Classical in
theorem nmB_false {s : ByteArray} (h : ¬ Nm s) : nmB s = false := by unfold nmB; exact decide_eq_false h
theorem dig_let (c : Int) : digB c = true → letB c = false := by
  unfold digB letB
  intro h
  simp at h
  simp
  omega

set_option maxRecDepth 100000 in
set_option maxHeartbeats 2000000 in
theorem name7_loop (s : ByteArray) (w : World) (h1 : 1 ≤ s.size) (h2 : s.size ≤ 24) (hd : digB ((s[0]'h1).toNat : Int) = false) :
    Calls Try.prog 7 #[.string s] w fun e w' => e = .returned (.bool (nmB s)) ∧ w = w' := by
  have hne : s.toList.isEmpty = false := by
    rw [Lib.toList_data]
    have : s.data.toList.length = s.size := by simp
    cases h : s.data.toList with
    | nil => rw [h] at this; simp at this; omega
    | cons _ _ => rfl
  have hne2 : (!s.toList.isEmpty) = true := by rw [hne]; rfl
  have hlet : letB ((s[0]'h1).toNat : Int) = true ∨ ¬ Nm s := by
    by_cases h : letB ((s[0]'h1).toNat : Int) = true
    · exact .inl h
    · refine .inr fun n => ?_
      rcases n.2.2 0 h1 with a | a
      · exact h a
      · exact a.2 rfl
  have HD := Lib.hid hd
  clear hlet
  go_enter Try.func7, Try.ntmps7
  go_wp2_with (go_at_call 20; refine (digit20 _ _).mono ?_; rintro e w' ⟨rfl, rfl⟩)
  clear hd
  go_loop [18] (fun i => ∃ k : Nat, k ≤ s.size ∧ i = .int .i64 k ∧ Hid (∀ j (h : j < s.size), j < k → Okc s j h)) (fun i => s.size - (intOf i).toNat)
  case atStart => exact ⟨0, Nat.zero_le _, rfl, fun j _ h => absurd h (Nat.not_lt_zero _)⟩
  case round =>
    obtain ⟨k, hk, rfl, hall⟩ := hrel
    by_cases hlt : k < s.size
    · by_cases hl : letB ((s[k]'hlt).toNat : Int) = true
      · have hok : Hid (Okc s k hlt) := .inl hl
        go_wp2_with (go_at_call 21; refine (letter21 _ _).mono ?_; rintro e w' ⟨rfl, rfl⟩)
        go_round
        case rel =>
          refine ⟨k + 1, by omega, by go_num, fun j h hj => ?_⟩
          by_cases e : j = k
          · subst e; exact hok.out
          · exact hall.out j h (by omega)
        case measure => simp [intOf]; omega
      · have hl2 : letB ((s[k]'hlt).toNat : Int) = false := by simpa using hl
        by_cases hg : digB ((s[k]'hlt).toNat : Int) = true
        · have hok : Hid (Okc s k hlt) := by
            refine .inr ⟨hg, ?_⟩
            intro e
            subst e
            rw [HD.out] at hg
            cases hg
          clear hl
          go_wp2_with (first | (go_at_call 21; refine (letter21 _ _).mono ?_; rintro e w' ⟨rfl, rfl⟩) | (go_at_call 20; refine (digit20 _ _).mono ?_; rintro e w' ⟨rfl, rfl⟩))
          go_round
          case rel =>
            refine ⟨k + 1, by omega, by go_num, fun j h hj => ?_⟩
            by_cases e : j = k
            · subst e; exact hok.out
            · exact hall.out j h (by omega)
          case measure => simp [intOf]; omega
        · have hg2 : digB ((s[k]'hlt).toNat : Int) = false := by simpa using hg
          have hn : Hid (nmB s = false) := by
            refine nmB_false fun n => ?_
            rcases n.2.2 k hlt with a | a
            · exact hl a
            · exact hg a.1
          clear hl hg
          go_wp2_with (first | (go_at_call 21; refine (letter21 _ _).mono ?_; rintro e w' ⟨rfl, rfl⟩) | (go_at_call 20; refine (digit20 _ _).mono ?_; rintro e w' ⟨rfl, rfl⟩))
          go_ret
          exact ⟨(by rw [hn.out]; rfl), rfl⟩
    · have hn : Hid (nmB s = true) := nmB_true ⟨h1, h2, fun j h => hall.out j h (by omega)⟩
      go_wp2
      go_ret
      exact ⟨(by rw [hn.out]; rfl), rfl⟩
set_option maxHeartbeats 1000000 in
theorem name7 (s : ByteArray) (w : World) : Calls Try.prog 7 #[.string s] w fun e w' => e = .returned (.bool (nmB s)) ∧ w = w' := by
  by_cases h1 : 1 ≤ s.size
  · have hne : s.toList.isEmpty = false := by
      rw [Lib.toList_data]
      have : s.data.toList.length = s.size := by simp
      cases h : s.data.toList with
      | nil => rw [h] at this; simp at this; omega
      | cons _ _ => rfl
    have hne2 : (!s.toList.isEmpty) = true := by rw [hne]; rfl
    by_cases h2 : s.size ≤ 24
    · by_cases hd : digB ((s[0]'h1).toNat : Int) = true
      · have hn : Hid (nmB s = false) := by
          refine nmB_false fun n => ?_
          rcases n.2.2 0 h1 with a | a
          · rw [dig_let _ hd] at a; cases a
          · exact a.2 rfl
        go_enter Try.func7, Try.ntmps7
        go_wp2_with (go_at_call 20; refine (digit20 _ _).mono ?_; rintro e w' ⟨rfl, rfl⟩)
        go_ret
        exact ⟨(by rw [hn.out]; rfl), rfl⟩
      · exact name7_loop s w h1 h2 (by simpa using hd)
    · have hn : Hid (nmB s = false) := nmB_false fun n => h2 n.2.1
      have d1 : decide ((24 : Int) < (s.size : Int)) = true := by rw [decide_eq_true_iff]; omega
      have d2 : decide (24 < s.size) = true := by rw [decide_eq_true_iff]; omega
      clear h2
      go_enter Try.func7, Try.ntmps7
      go_wp2
      go_ret
      exact ⟨(by rw [hn.out]; rfl), rfl⟩
  · have hn : Hid (nmB s = false) := nmB_false fun n => h1 n.1
    have he : s.toList.isEmpty = true := by
      rw [Lib.toList_data]
      have : s.data.toList.length = s.size := by simp
      rw [List.isEmpty_iff]
      exact List.eq_nil_of_length_eq_zero (by omega)
    have hne2 : (!s.toList.isEmpty) = false := by rw [he]; rfl
    clear h1
    go_enter Try.func7, Try.ntmps7
    go_wp2
    go_ret
    exact ⟨(by rw [hn.out]; rfl), rfl⟩
end Go.Proofs.Ytefiliomfiomfaa
