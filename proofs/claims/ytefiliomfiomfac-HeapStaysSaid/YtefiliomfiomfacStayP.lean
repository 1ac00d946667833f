/- What was not written into stays: the plain law. -/
import Derived.Test.YtefiliomfiomfacSet
namespace Go.Proofs.Ytefiliomfiomfac

/-- At a there is a thing of a type below 100, of two words, the second v. -/
def Stay (T : List Th) (v a : Int) : Prop := ∃ k t x, find T a = some k ∧ T[k]? = some t ∧ t.id < 100 ∧ t.w = [x, v]
theorem Stay.push {T : List Th} {v a : Int} (h : Stay T v a) (t : Th) : Stay (T ++ [t]) v a := by
  obtain ⟨k, u, x, hf, hk, hi, hw⟩ := h
  refine ⟨k, u, x, ?_, ?_, hi, hw⟩
  · rw [find_append, if_neg, hf]
    intro e
    rw [e, find_new] at hf
    cases hf
  · rw [List.getElem?_append_left (List.getElem?_eq_some_iff.1 hk).1]
    exact hk
theorem Stay.put {T : List Th} {v a : Int} (h : Stay T v a) (most id : Nat) (w : List Int) : Stay (putF T most id w).2.2 v a := by
  unfold putF
  split
  · exact h
  · exact h.push _
theorem Stay.thing {T : List Th} {v a : Int} (h : Stay T v a) (most : Nat) (id n : Int) : Stay (thingF T most id n).2.2 v a := by
  unfold thingF
  split
  · exact h
  · exact h.put _ _ _
theorem Stay.array {T : List Th} {v a : Int} (h : Stay T v a) (most : Nat) (id n : Int) : Stay (arrayF T most id n).2.2 v a := by
  unfold arrayF
  split
  · exact h
  · exact h.put _ _ _
theorem Stay.set {T : List Th} {v a : Int} (h : Stay T v a) (b i y : Int) (hi : i = 0 ∨ i = 1 ∧ y = v) : Stay (setF T b i y).2 v a := by
  unfold setF
  cases hb : find T b with
  | none => exact h
  | some j =>
    simp only
    cases hj : T[j]? with
    | none => exact h
    | some u =>
      simp only
      split
      · next hr =>
        obtain ⟨hjl, hju⟩ := List.getElem?_eq_some_iff.1 hj
        obtain ⟨k, t, x, hf, hk, hid, hw⟩ := h
        have hfs : find (T.set j { u with w := u.w.set i.toNat y }) a = some k := by rw [find_set T j _ a (fun _ => by simp [hju]), hf]
        by_cases e : j = k
        · subst e
          rw [hj] at hk
          obtain rfl := Option.some.inj hk
          rcases hi with rfl | ⟨rfl, rfl⟩
          · exact ⟨j, _, y, hfs, List.getElem?_set_self hjl, hid, by simp [hw]⟩
          · exact ⟨j, _, x, hfs, List.getElem?_set_self hjl, hid, by simp [hw]⟩
        · exact ⟨k, t, x, hfs, by rw [List.getElem?_set_ne e]; exact hk, hid, hw⟩
      · exact h
/-- A thing of two words, made and written. -/
theorem stay_new {T : List Th} {most : Nat} {id a : Int} {T' : List Th} (h : thingF T most id 2 = (a, 0, T')) (hid : id < 100) (v : Int) : (setF T' a 1 v).1 = 0 ∧ Stay (setF T' a 1 v).2 v a := by
  unfold thingF at h
  split at h
  · simp at h
  · next hb =>
    unfold putF at h
    split at h
    · simp at h
    · simp at h
      obtain ⟨rfl, rfl⟩ := h
      have hf : find (T ++ [⟨id.toNat, [0, 0], 0⟩]) ((used T : Int) + 1) = some T.length := by rw [find_append, if_pos rfl]
      have hk : (T ++ [(⟨id.toNat, [0, 0], 0⟩ : Th)])[T.length]? = some ⟨id.toNat, [0, 0], 0⟩ := by simp
      unfold setF
      rw [hf]
      simp only
      rw [hk]
      simp only
      rw [if_pos (by simp)]
      refine ⟨rfl, T.length, _, 0, ?_, List.getElem?_set_self (by simp), ?_, by simp⟩
      · rw [find_set _ _ _ _ (fun _ => by simp), hf]
      · show id.toNat < 100
        omega
theorem stay_get {T : List Th} {v a : Int} (h : Stay T v a) : getF T a 1 = (v, 0) := by
  obtain ⟨k, t, x, hf, hk, _, hw⟩ := h
  unfold getF words
  rw [hf]
  simp [hk, hw]
theorem stay_type {T : List Th} {v a : Int} (h : Stay T v a) : ∃ i : Nat, typeF T a = ((i : Int), 0) ∧ i < 100 := by
  obtain ⟨k, t, x, hf, hk, hid, _⟩ := h
  refine ⟨t.id, ?_, hid⟩
  unfold typeF
  rw [hf]
  simp [hk]
end Go.Proofs.Ytefiliomfiomfac
