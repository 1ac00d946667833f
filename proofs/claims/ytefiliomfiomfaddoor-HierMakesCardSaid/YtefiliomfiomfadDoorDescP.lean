/- Types as texts, plain: what the printed functions come to. -/
import Derived.Test.YtefiliomfiomfadDoorPHierMakesx1
import Derived.Test.YtefiliomfiomfadDoorNew
import Derived.Lib.Strings
namespace Go.Proofs.YtefiliomfiomfadDoor
open Go.RowKit PHierMakes Go.Proofs.YtefiliomfiomfadDoorW.PrintWords

theorem wrap_le {i : Int} (h0 : 0 ≤ i) (h : i ≤ 9223372036854775807) : wrap64 i = i := by unfold wrap64; omega
theorem digit_some (c : Int) : ∃ b, bin_digit.f c = some b := by unfold bin_digit.f; split <;> exact ⟨_, rfl⟩
theorem letter_some (c : Int) : ∃ b, bin_letter.f c = some b := by unfold bin_letter.f; (repeat' split) <;> exact ⟨_, rfl⟩
theorem name_l0 (s : ByteArray) (hs : s.size ≤ 24) (d : Nat) : ∀ (k : Nat) (i : Int), 0 ≤ i → i ≤ s.size → (s.size : Int) - i = d → d < k → ∃ r, bin_Name.l0 k s s.size i = some r := by
  induction d with
  | zero =>
    intro k i h0 h1 hd hk
    obtain ⟨k, rfl⟩ : ∃ m, k = m + 1 := ⟨k - 1, by omega⟩
    exact ⟨true, by simp only [bin_Name.l0]; rw [if_neg (by omega)]⟩
  | succ d ih =>
    intro k i h0 h1 hd hk
    obtain ⟨k, rfl⟩ : ∃ m, k = m + 1 := ⟨k - 1, by omega⟩
    have hlt : i < (s.size : Int) := by omega
    have hw : wrap64 (i + 1) = i + 1 := wrap_le (by omega) (by omega)
    obtain ⟨r, hr⟩ := ih k (i + 1) (by omega) (by omega) (by omega) (by omega)
    obtain ⟨b, hb⟩ := letter_some (bt s i)
    obtain ⟨b2, hb2⟩ := digit_some (bt s i)
    simp only [bin_Name.l0]
    rw [if_pos hlt, if_pos h0, if_pos hlt, hb, hb2, hw]
    simp only [Option.bind_some]
    cases b
    · cases b2
      · exact ⟨false, by simp⟩
      · exact ⟨r, by simpa using hr⟩
    · exact ⟨r, by simpa using hr⟩
theorem name_some (s : ByteArray) : ∃ r, bin_Name.f 30 s = some r := by
  unfold bin_Name.f
  split
  · exact ⟨false, by simp [bin_Name.j0]⟩
  · split
    · exact ⟨false, by simp [bin_Name.j0]⟩
    · next h1 h2 =>
      have h0 : 0 < (s.size : Int) := by
        rcases Nat.eq_zero_or_pos s.size with h | h
        · exfalso
          apply h1
          rw [ByteArray.toList_eq]
          exact List.eq_nil_of_length_eq_zero (by rw [Array.length_toList]; exact h)
        · omega
      rw [if_pos h0]
      obtain ⟨b, hb⟩ := digit_some (bt s 0)
      rw [hb]
      simp only [Option.bind_some]
      cases b
      · obtain ⟨r, hr⟩ := name_l0 s (by omega) s.size 29 0 (by omega) (by omega) (by omega) (by omega)
        exact ⟨r, by simpa [bin_Name.j0] using hr⟩
      · exact ⟨false, by simp [bin_Name.j0]⟩
theorem trim_l0 (c : Int) (d : Nat) : ∀ (k : Nat) (s : ByteArray), s.size ≤ d → d < k → ∃ r, strings_trimLeftByte.l0 k s c = some r ∧ r.size ≤ s.size := by
  induction d with
  | zero =>
    intro k s hd hk
    obtain ⟨k, rfl⟩ : ∃ m, k = m + 1 := ⟨k - 1, by omega⟩
    exact ⟨s, by simp only [strings_trimLeftByte.l0]; rw [if_neg (by omega)], Nat.le_refl _⟩
  | succ d ih =>
    intro k s hd hk
    obtain ⟨k, rfl⟩ : ∃ m, k = m + 1 := ⟨k - 1, by omega⟩
    simp only [strings_trimLeftByte.l0]
    by_cases h0 : (s.size : Int) > 0
    · rw [if_pos h0, if_pos (by omega)]
      by_cases hc : bt s 0 = c
      · rw [if_pos hc, if_pos (by omega)]
        have hz : (s.extract 1 s.size).size = s.size - 1 := by simp [ByteArray.size_extract]
        obtain ⟨r, hr, hrs⟩ := ih k (s.extract 1 s.size) (by omega) (by omega)
        exact ⟨r, hr, by omega⟩
      · rw [if_neg hc]
        exact ⟨s, rfl, Nat.le_refl _⟩
    · rw [if_neg h0]
      exact ⟨s, rfl, Nat.le_refl _⟩
/-- A text without the brackets ahead. -/
def trimF (s : BA) : BA := (strings_trimLeftByte.f (s.size + 1) s 91).getD s
theorem trim_some (s : BA) : strings_trimLeftByte.f (s.size + 1) s 91 = some (trimF s) ∧ (trimF s).size ≤ s.size := by
  obtain ⟨r, hr, hs⟩ := trim_l0 91 s.size (s.size + 1) s (Nat.le_refl _) (by omega)
  have h : strings_trimLeftByte.f (s.size + 1) s 91 = some r := hr
  unfold trimF
  rw [h]
  exact ⟨rfl, hs⟩
theorem prefix_spec (s : BA) : ∃ r b, strings_CutPrefix.f s ⟨#[76]⟩ = some (r, b) ∧ r.size ≤ s.size ∧ (b = true → s.data.toList = 76 :: r.data.toList) := by
  have e1 : ((⟨#[76]⟩ : ByteArray).size : Int) = 1 := rfl
  have e2 : (⟨#[76]⟩ : ByteArray).toList = [76] := ByteArray.toList_mk [76]
  unfold strings_CutPrefix.f stringslite_CutPrefix.f stringslite_HasPrefix.f
  rw [e1, e2]
  by_cases h : (s.size : Int) ≥ 1
  · rw [if_pos h, if_pos (by omega), if_pos h]
    simp only [Option.bind_some]
    by_cases hp : ((s.extract 0 (1 : Int).toNat).toList == [76]) = true
    · rw [hp]
      simp only [if_true]
      rw [if_pos (by omega), if_pos h]
      simp only [Option.bind_some]
      refine ⟨_, true, rfl, ?_, fun _ => ?_⟩
      · simp [ByteArray.size_extract]
      · have hp2 : (s.extract 0 1).toList = [76] := by simpa using hp
        have hl : s.data.toList.length = s.size := by rw [Array.length_toList]; rfl
        rw [Lib.extract_toList] at hp2
        rw [Lib.extract_data]
        generalize s.data.toList = l at *
        cases l with
        | nil => simp at hp2
        | cons x r =>
          simp at hp2
          subst hp2
          have hl2 : r.length + 1 = s.size := hl
          rw [show (1 : Int).toNat = 1 from rfl, List.drop_one, List.tail_cons, List.take_of_length_le (by omega)]
    · have hp' : ((s.extract 0 (1 : Int).toNat).toList == [76]) = false := by simpa using hp
      rw [hp']
      exact ⟨s, false, rfl, Nat.le_refl _, fun h => by cases h⟩
  · rw [if_neg h]
    exact ⟨s, false, rfl, Nat.le_refl _, fun h => by cases h⟩
theorem suffix_spec (s : BA) (hs : s.size ≤ maxLen) : ∃ r b, strings_CutSuffix.f s ⟨#[59]⟩ = some (r, b) ∧ r.size ≤ s.size ∧ (b = true → s.data.toList = r.data.toList ++ [59]) := by
  unfold maxLen at hs
  have e1 : ((⟨#[59]⟩ : ByteArray).size : Int) = 1 := rfl
  have e2 : (⟨#[59]⟩ : ByteArray).toList = [59] := ByteArray.toList_mk [59]
  unfold strings_CutSuffix.f stringslite_CutSuffix.f stringslite_HasSuffix.f
  rw [e1, e2]
  by_cases h : (s.size : Int) ≥ 1
  · have hw : wrap64 ((s.size : Int) - 1) = (s.size : Int) - 1 := wrap_le (by omega) (by omega)
    rw [hw, if_pos h, if_pos (by omega), if_pos (by omega)]
    simp only [Option.bind_some]
    have ht : ((s.size : Int) - 1).toNat = s.size - 1 := by omega
    rw [ht]
    by_cases hp : ((s.extract (s.size - 1) s.size).toList == [59]) = true
    · rw [hp]
      simp only [if_true]
      rw [if_pos (by omega), if_pos (by omega)]
      simp only [Option.bind_some]
      refine ⟨_, true, rfl, ?_, fun _ => ?_⟩
      · simp [ByteArray.size_extract]
      · have hp2 : (s.extract (s.size - 1) s.size).toList = [59] := by simpa using hp
        have hl : s.data.toList.length = s.size := by rw [Array.length_toList]; rfl
        rw [Lib.extract_toList] at hp2
        rw [Lib.extract_data]
        generalize s.data.toList = l at *
        generalize s.size = n at *
        rw [List.drop_zero, Nat.sub_zero]
        rw [List.take_of_length_le (by simp; omega)] at hp2
        rw [← hp2, List.take_append_drop]
    · have hp' : ((s.extract (s.size - 1) s.size).toList == [59]) = false := by simpa using hp
      rw [hp']
      exact ⟨s, false, rfl, Nat.le_refl _, fun h => by cases h⟩
  · rw [if_neg h]
    exact ⟨s, false, rfl, Nat.le_refl _, fun h => by cases h⟩
/-- A text of a class's type: the class. -/
def nameF (s : BA) : BA × Bool := (desc_name.f 30 s).getD (s, false)
theorem nameF_spec (s : BA) (hs : s.size ≤ maxLen) : desc_name.f 30 s = some (nameF s) ∧ (nameF s).1.size ≤ s.size ∧ ((nameF s).2 = true → s.data.toList = 76 :: ((nameF s).1.data.toList ++ [59])) := by
  have : ∃ r : BA × Bool, desc_name.f 30 s = some r ∧ r.1.size ≤ s.size ∧ (r.2 = true → s.data.toList = 76 :: (r.1.data.toList ++ [59])) := by
    obtain ⟨r1, b1, h1, z1, q1⟩ := prefix_spec s
    obtain ⟨r2, b2, h2, z2, q2⟩ := suffix_spec r1 (by omega)
    obtain ⟨b3, h3⟩ := name_some r2
    unfold desc_name.f
    rw [h1]
    simp only [Option.bind_some]
    rw [h2]
    simp only [Option.bind_some]
    cases b1 with
    | false => exact ⟨_, by simp; rfl, by show r2.size ≤ _; omega, fun h => by cases h⟩
    | true =>
      cases b2 with
      | false => exact ⟨_, by simp; rfl, by show r2.size ≤ _; omega, fun h => by cases h⟩
      | true =>
        rw [h3]
        exact ⟨(r2, b3), by simp, by show r2.size ≤ _; omega, fun _ => by rw [q1 rfl, q2 rfl]⟩
  obtain ⟨r, h1, h2, h3⟩ := this
  have e : nameF s = r := by unfold nameF; rw [h1]; rfl
  rw [e]
  exact ⟨h1, h2, h3⟩
def classF (s : BA) : BA × Bool := if (nameF s).2 then ((nameF s).1, true) else (⟨#[]⟩, false)
theorem classF_spec {s x : BA} (hs : s.size ≤ maxLen) (h : classF s = (x, true)) : s.data.toList = 76 :: (x.data.toList ++ [59]) ∧ x.size ≤ s.size := by
  obtain ⟨_, hz, hq⟩ := nameF_spec s hs
  unfold classF at h
  by_cases h2 : (nameF s).2 = true
  · rw [if_pos h2] at h
    injection h with h _
    rw [← h]
    exact ⟨hq h2, hz⟩
  · rw [if_neg h2] at h
    injection h with _ h
    cases h
theorem classF_inj {a b x : BA} (ha : a.size ≤ maxLen) (hb : b.size ≤ maxLen) (h1 : classF a = (x, true)) (h2 : classF b = (x, true)) : a = b :=
  ba_ext ((classF_spec ha h1).1.trans (classF_spec hb h2).1.symm)
def isI : BA := ⟨#[73]⟩
def isB : BA := ⟨#[66]⟩
def isS : BA := ⟨#[83]⟩
def isN : BA := ⟨#[78]⟩
def ofObj : BA := ⟨#[76, 79, 98, 106, 101, 99, 116, 59]⟩
def plainF (s : BA) : Bool := decide (s = isI) || decide (s = isB) || decide (s = isS)
def rightF (s : BA) : Bool := decide (s.size - (trimF s).size ≤ 4) && ((nameF (trimF s)).2 || plainF (trimF s))
def refF (s : BA) : Bool := decide (s = isN) || (rightF s && decide (s ≠ isI) && decide (s ≠ isB))
def knownF (H : List (BA × BA)) (d : BA) : Bool := rightF d && (!(classF (trimF d)).2 || (look H (classF (trimF d)).1).isSome)
def mayF (H : List (BA × BA)) (d : BA) : Bool := decide (d = isN) || knownF H d
theorem class_obj : classF ofObj = (obj, true) := by decide +kernel
theorem class_null : classF isN = (⟨#[]⟩, false) := by decide +kernel
end Go.Proofs.YtefiliomfiomfadDoor
