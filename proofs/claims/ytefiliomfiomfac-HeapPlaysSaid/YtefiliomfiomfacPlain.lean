/- A heap's things, plain: their words, where they stand, what each call answers. No program in sight. -/
import Derived.Test.YtefiliomfiomfacRows
namespace Go.Proofs.Ytefiliomfiomfac

structure Th where
  id : Nat
  w : List Int
  sent : Int

def rawOf (t : Th) : List Int := ((t.id : Int) * 65536 + (t.w.length : Int)) :: t.w
def raw : List Th → List Int
  | [] => []
  | t :: r => rawOf t ++ raw r
def used (T : List Th) : Nat := (raw T).length
def pos (T : List Th) (k : Nat) : Nat := used (T.take k)
def findFrom (s : Nat) : List Th → Int → Option Nat
  | [], _ => none
  | t :: r, a => if a = (s : Int) + 1 then some 0 else (findFrom (s + 1 + t.w.length) r a).map (· + 1)
def find (T : List Th) (a : Int) : Option Nat := findFrom 0 T a
def sentAt (T : List Th) (a : Int) : Option Int :=
  match find T a with
  | some k => match T[k]? with
    | some t => if t.sent = 0 then none else some t.sent
    | none => none
  | none => none

theorem len_rawOf (t : Th) : (rawOf t).length = 1 + t.w.length := by simp [rawOf]; omega
theorem usedT_nil : used [] = 0 := rfl
theorem usedT_cons (t : Th) (r : List Th) : used (t :: r) = 1 + t.w.length + used r := by simp [used, raw, len_rawOf]
theorem raw_append (a b : List Th) : raw (a ++ b) = raw a ++ raw b := by
  induction a with
  | nil => rfl
  | cons t r ih => simp only [List.cons_append, raw, ih, List.append_assoc]
theorem usedT_append (a b : List Th) : used (a ++ b) = used a + used b := by simp [used, raw_append]
theorem findFrom_some {s : Nat} {T : List Th} {a : Int} {k : Nat} (h : findFrom s T a = some k) : ∃ _ : k < T.length, a = (s : Int) + (pos T k : Int) + 1 := by
  induction T generalizing s k with
  | nil => simp [findFrom] at h
  | cons t r ih =>
    unfold findFrom at h
    split at h
    · next e =>
      injection h with h
      subst h
      refine ⟨by simp, ?_⟩
      rw [e]
      simp [pos, usedT_nil]
    · cases hf : findFrom (s + 1 + t.w.length) r a with
      | none => rw [hf] at h; simp at h
      | some j =>
        rw [hf] at h
        simp at h
        subst h
        obtain ⟨hj, e⟩ := ih hf
        refine ⟨by simpa using hj, ?_⟩
        have : pos (t :: r) (j + 1) = 1 + t.w.length + pos r j := by simp [pos, usedT_cons]
        rw [e, this]
        push_cast
        omega
theorem find_some {T : List Th} {a : Int} {k : Nat} (h : find T a = some k) : ∃ _ : k < T.length, a = (pos T k : Int) + 1 := by
  obtain ⟨hk, e⟩ := findFrom_some h
  exact ⟨hk, by simpa using e⟩
theorem findFrom_append (s : Nat) (T : List Th) (t : Th) (a : Int) : findFrom s (T ++ [t]) a = if a = (s : Int) + (used T : Int) + 1 then some T.length else findFrom s T a := by
  induction T generalizing s with
  | nil =>
    simp [findFrom, usedT_nil]
  | cons x r ih =>
    rw [List.cons_append]
    unfold findFrom
    rw [ih, usedT_cons]
    by_cases h1 : a = (s : Int) + 1
    · rw [if_pos h1, if_pos h1, if_neg (by push_cast; omega)]
    · rw [if_neg h1, if_neg h1]
      by_cases h2 : a = ((s + 1 + x.w.length : Nat) : Int) + (used r : Int) + 1
      · rw [if_pos h2, if_pos (by rw [h2]; push_cast; omega)]
        simp
      · rw [if_neg h2, if_neg (by push_cast at h2 ⊢; omega)]
theorem find_append (T : List Th) (t : Th) (a : Int) : find (T ++ [t]) a = if a = (used T : Int) + 1 then some T.length else find T a := by
  have := findFrom_append 0 T t a
  simpa [find] using this
theorem findFrom_set (s : Nat) (T : List Th) (k : Nat) (t : Th) (a : Int) (h : ∀ hk : k < T.length, t.w.length = T[k].w.length) : findFrom s (T.set k t) a = findFrom s T a := by
  induction T generalizing s k with
  | nil => rfl
  | cons x r ih =>
    cases k with
    | zero =>
      have := h (by simp)
      simp at this
      simp only [List.set_cons_zero, findFrom, this]
    | succ k =>
      simp only [List.set_cons_succ, findFrom]
      rw [ih]
      intro hk
      have := h (by simpa using hk)
      simpa using this
theorem find_set (T : List Th) (k : Nat) (t : Th) (a : Int) (h : ∀ hk : k < T.length, t.w.length = T[k].w.length) : find (T.set k t) a = find T a := findFrom_set 0 T k t a h
theorem raw_split (T : List Th) (k : Nat) (h : k < T.length) : raw T = raw (T.take k) ++ (rawOf T[k] ++ raw (T.drop (k + 1))) := by
  have e : T = T.take k ++ (T[k] :: T.drop (k + 1)) := by rw [← List.drop_eq_getElem_cons h, List.take_append_drop]
  have := congrArg raw e
  rw [raw_append] at this
  exact this
theorem pos_len (T : List Th) (k : Nat) : (raw (T.take k)).length = pos T k := rfl
theorem pos_bound (T : List Th) (k : Nat) (h : k < T.length) : pos T k + 1 + T[k].w.length ≤ used T := by
  have := congrArg List.length (raw_split T k h)
  rw [List.length_append, List.length_append, len_rawOf, pos_len] at this
  unfold used
  omega
theorem raw_head (T : List Th) (k : Nat) (h : k < T.length) : (raw T)[pos T k]? = some ((T[k].id : Int) * 65536 + (T[k].w.length : Int)) := by
  rw [raw_split T k h, List.getElem?_append_right (by rw [pos_len]; exact Nat.le_refl _), pos_len, Nat.sub_self]
  rfl
theorem raw_word (T : List Th) (k : Nat) (h : k < T.length) (i : Nat) (hi : i < T[k].w.length) : (raw T)[pos T k + 1 + i]? = some T[k].w[i] := by
  rw [raw_split T k h, List.getElem?_append_right (by rw [pos_len]; omega), pos_len]
  have e : pos T k + 1 + i - pos T k = i + 1 := by omega
  rw [e, List.getElem?_append_left (by rw [len_rawOf]; omega)]
  simp [rawOf, hi]
theorem tmod_head (i n : Nat) (h : n < 65536) : ((i : Int) * 65536 + (n : Int)).tmod 65536 = (n : Int) := by
  rw [Int.tmod_eq_emod_of_nonneg (by omega)]
  omega
theorem tdiv_head (i n : Nat) (h : n < 65536) : ((i : Int) * 65536 + (n : Int)).tdiv 65536 = (i : Int) := by
  rw [Int.tdiv_eq_ediv_of_nonneg (by omega)]
  omega
theorem take_set_eq (T : List Th) (k j : Nat) (t : Th) (h : j ≤ k) : (T.set k t).take j = T.take j := by
  rw [List.take_set_of_le]
  exact h
theorem raw_set_word (T : List Th) (k : Nat) (h : k < T.length) (i : Nat) (hi : i < T[k].w.length) (v : Int) :
    raw (T.set k { T[k] with w := T[k].w.set i v }) = (raw T).set (pos T k + 1 + i) v := by
  have hk' : k < (T.set k { T[k] with w := T[k].w.set i v }).length := by simpa using h
  rw [raw_split _ k hk', raw_split T k h, take_set_eq _ _ _ _ (Nat.le_refl _), List.drop_set_of_lt (by omega), List.getElem_set_self]
  rw [List.set_append_right _ _ (by rw [pos_len]; omega), pos_len]
  have e : pos T k + 1 + i - pos T k = i + 1 := by omega
  rw [e, List.set_append_left _ _ (by rw [len_rawOf]; omega)]
  simp [rawOf]
theorem raw_set_sent (T : List Th) (k : Nat) (h : k < T.length) (v : Int) : raw (T.set k { T[k] with sent := v }) = raw T := by
  have hk' : k < (T.set k { T[k] with sent := v }).length := by simpa using h
  rw [raw_split _ k hk', raw_split T k h, take_set_eq _ _ _ _ (Nat.le_refl _), List.drop_set_of_lt (by omega), List.getElem_set_self]
  rfl

/-- What the calls answer: the address, the error, the things behind the call. -/
def putF (T : List Th) (most : Nat) (id : Nat) (w : List Int) : Int × Int × List Th :=
  if most < used T + (w.length + 1) then (0, 17, T) else ((used T : Int) + 1, 0, T ++ [⟨id, w, 0⟩])
def thingF (T : List Th) (most : Nat) (id size : Int) : Int × Int × List Th :=
  if id < 0 ∨ 65535 < id ∨ size < 0 ∨ 4096 < size then (0, 2, T) else putF T most id.toNat (List.replicate size.toNat 0)
def arrayF (T : List Th) (most : Nat) (id n : Int) : Int × Int × List Th :=
  if id < 0 ∨ 65535 < id ∨ n < 0 ∨ 4095 < n then (0, 2, T) else putF T most id.toNat (n :: List.replicate n.toNat 0)
/-- Each thing is one that can be. -/
def Good (T : List Th) (most : Nat) : Prop := most ≤ 4096 ∧ used T ≤ most ∧ ∀ t ∈ T, t.id ≤ 65535
theorem Good.w {T : List Th} {most : Nat} (h : Good T most) (k : Nat) (hk : k < T.length) : T[k].w.length < 65536 := by
  have := pos_bound T k hk
  have := h.1
  have := h.2.1
  omega
theorem Good.push {T : List Th} {most : Nat} (h : Good T most) (t : Th) (hi : t.id ≤ 65535) (hu : used T + (1 + t.w.length) ≤ most) : Good (T ++ [t]) most := by
  refine ⟨h.1, ?_, ?_⟩
  · rw [usedT_append, usedT_cons, usedT_nil]
    omega
  · intro x hx
    rcases List.mem_append.1 hx with h1 | h1
    · exact h.2.2 x h1
    · simp at h1; subst h1; exact hi
end Go.Proofs.Ytefiliomfiomfac
