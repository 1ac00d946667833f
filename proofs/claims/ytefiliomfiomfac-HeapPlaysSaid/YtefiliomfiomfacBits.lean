/- Eight bytes a word: what a text's words are, and its bytes got from them. No program in sight. -/
import Derived.Test.YtefiliomfiomfacMem
import Derived.Laws.BitsAllLaws
namespace Go.Proofs.Ytefiliomfiomfac
open Go.RowKit

def le : List UInt8 → Nat
  | [] => 0
  | c :: r => c.toNat + 256 * le r
theorem le_lt (l : List UInt8) : le l < 256 ^ l.length := by
  induction l with
  | nil => simp [le]
  | cons c r ih =>
    have := c.toNat_lt
    rw [List.length_cons, Nat.pow_succ]
    simp only [le]
    omega
theorem le_snoc (l : List UInt8) (c : UInt8) : le (l ++ [c]) = le l + c.toNat * 256 ^ l.length := by
  induction l with
  | nil => simp [le]
  | cons x r ih =>
    rw [List.cons_append, List.length_cons, Nat.pow_succ]
    simp only [le]
    rw [ih, Nat.mul_add, ← Nat.mul_assoc, Nat.mul_comm 256 c.toNat, Nat.mul_assoc c.toNat, Nat.mul_comm 256 (256 ^ r.length)]
    omega
theorem le_get (l : List UInt8) (j : Nat) (h : j < l.length) : le l / 256 ^ j % 256 = (l[j]).toNat := by
  induction l generalizing j with
  | nil => simp at h
  | cons c r ih =>
    have := c.toNat_lt
    cases j with
    | zero => simp only [le, Nat.pow_zero, Nat.div_one, List.getElem_cons_zero]; omega
    | succ j =>
      have e : le (c :: r) / 256 ^ (j + 1) = le r / 256 ^ j := by
        rw [Nat.pow_succ, Nat.mul_comm, ← Nat.div_div_eq_div_mul]
        simp only [le]
        congr 1
        omega
      rw [e, ih j (by simpa using h), List.getElem_cons_succ]
def wordAt (t : List UInt8) : Int := IntKind.i64.wrap (le t : Int)
theorem p256 (k : Nat) : 256 ^ k = 2 ^ (8 * k) := by rw [Nat.pow_mul]
theorem ofInt_wrap (A : Nat) (h : A < 18446744073709551616) : (BitVec.ofInt 64 (IntKind.i64.wrap (A : Int))).toNat = A := by
  rw [BitVec.toNat_ofInt, IntKind.wrap_i64]
  omega
theorem or_word (t : List UInt8) (c : UInt8) (h : t.length < 8) : bits .or .i64 (wordAt t) (IntKind.i64.wrap ((c.toNat : Int) * 2 ^ (8 * t.length))) = wordAt (t ++ [c]) := by
  have hl := le_lt t
  have hc := c.toNat_lt
  have hp : 256 ^ t.length ≤ 256 ^ 7 := Nat.pow_le_pow_right (by decide) (by omega)
  have hB : c.toNat * 256 ^ t.length < 18446744073709551616 := by
    have h1 : c.toNat * 256 ^ t.length ≤ 255 * 256 ^ 7 := Nat.mul_le_mul (by omega) hp
    have h2 : 255 * 256 ^ 7 < 18446744073709551616 := by decide
    omega
  have e : (c.toNat : Int) * 2 ^ (8 * t.length) = ((c.toNat * 256 ^ t.length : Nat) : Int) := by rw [p256]; push_cast; rfl
  rw [e]
  unfold wordAt
  show IntKind.i64.wrap (((BitVec.ofInt 64 _) ||| (BitVec.ofInt 64 _)).toNat : Int) = _
  rw [BitVec.toNat_or, ofInt_wrap _ (by have : 256 ^ 7 < 18446744073709551616 := by decide
                                        omega), ofInt_wrap _ hB, le_snoc]
  have : le t ||| c.toNat * 256 ^ t.length = le t + c.toNat * 256 ^ t.length := by
    rw [Nat.or_comm, p256, Nat.mul_comm, ← Nat.two_pow_add_eq_or_of_lt (by rw [← p256]; exact hl)]
    omega
  rw [this]
theorem shr_word (t : List UInt8) (j : Nat) (h : j < t.length) (h8 : t.length ≤ 8) : IntKind.u8.wrap ((wordAt t).fdiv (2 ^ (8 * j))) = ((t[j]).toNat : Int) := by
  have hg := le_get t j h
  have hl := le_lt t
  have hp : 256 ^ t.length ≤ 256 ^ 8 := Nat.pow_le_pow_right (by decide) h8
  have hB : le t < 18446744073709551616 := by
    have h2 : 256 ^ 8 = 18446744073709551616 := by decide
    omega
  unfold wordAt
  rw [← hg, p256]
  have hpow : (2 : Nat) ^ (8 * j) * 2 ^ (56 - 8 * j) = 2 ^ 56 := by
    rw [← Nat.pow_add]
    have : 8 * j + (56 - 8 * j) = 56 := by omega
    rw [this]
  have hM := Nat.two_pow_pos (8 * j)
  have e2 : ((2 : Int) ^ (8 * j)) = ((2 ^ (8 * j) : Nat) : Int) := by push_cast; rfl
  rw [e2]
  generalize (2 : Nat) ^ (8 * j) = M at *
  generalize (2 : Nat) ^ (56 - 8 * j) = K at *
  generalize le t = A at *
  have h56 : (2 : Nat) ^ 56 = 72057594037927936 := by decide
  rw [h56] at hpow
  have hu8 : ∀ x : Int, IntKind.u8.wrap x = x % 256 := IntKind.wrap_u8'
  rw [hu8, Int.fdiv_eq_ediv_of_nonneg _ (by omega)]
  by_cases hA : A < 9223372036854775808
  · have e : IntKind.i64.wrap (A : Int) = (A : Int) := by rw [IntKind.wrap_i64]; omega
    rw [e]
    omega
  · have e : IntKind.i64.wrap (A : Int) = (A : Int) + (M : Int) * (-(256 * (K : Int))) := by
      rw [IntKind.wrap_i64]
      have : (M : Int) * (-(256 * (K : Int))) = -(256 * ((M * K : Nat) : Int)) := by
        push_cast
        rw [Int.mul_neg, Int.mul_left_comm]
      rw [this, hpow]
      omega
    rw [e, Int.add_mul_ediv_left _ _ (by omega)]
    omega

def chunk (s : List UInt8) (q : Nat) : List UInt8 := (s.drop (8 * q)).take 8
/-- The words of a text of which i bytes are laid. -/
def wordsTo (s : List UInt8) (m i : Nat) : List Int := (s.length : Int) :: (List.range m).map fun q => wordAt (chunk (s.take i) q)
theorem len_wordsTo (s : List UInt8) (m i : Nat) : (wordsTo s m i).length = m + 1 := by simp [wordsTo]
theorem wordsTo_zero (s : List UInt8) (m : Nat) : wordsTo s m 0 = (s.length : Int) :: List.replicate m 0 := by
  unfold wordsTo
  congr 1
  apply List.ext_getElem
  · simp
  · intro i h1 h2
    simp [chunk, wordAt, le]
    rfl
theorem chunk_len (s : List UInt8) (i : Nat) (h : i < s.length) : (chunk (s.take i) (i / 8)).length = i % 8 := by
  simp only [chunk, List.length_take, List.length_drop]
  omega
theorem chunk_here (s : List UInt8) (i : Nat) (h : i < s.length) : chunk (s.take (i + 1)) (i / 8) = chunk (s.take i) (i / 8) ++ [s[i]] := by
  unfold chunk
  have hd : ((s.take i).drop (8 * (i / 8))).length = i % 8 := by simp only [List.length_take, List.length_drop]; omega
  rw [List.take_succ_eq_append_getElem h, List.drop_append_of_le_length (by rw [List.length_take]; omega), List.take_of_length_le (by rw [List.length_append, hd]; simp; omega), List.take_of_length_le (i := 8) (l := (s.take i).drop (8 * (i / 8))) (by rw [hd]; omega)]
theorem chunk_other (s : List UInt8) (i q : Nat) (hq : q ≠ i / 8) : chunk (s.take (i + 1)) q = chunk (s.take i) q := by
  unfold chunk
  apply List.ext_getElem?
  intro k
  simp only [List.getElem?_take, List.getElem?_drop]
  by_cases hk : k < 8
  · rw [if_pos hk, if_pos hk]
    by_cases h1 : 8 * q + k < i
    · rw [if_pos h1, if_pos (by omega)]
    · rw [if_neg h1, if_neg (by omega)]
  · rw [if_neg hk, if_neg hk]
theorem wordsTo_get (s : List UInt8) (m i q : Nat) (h : q < m) : (wordsTo s m i)[q + 1]? = some (wordAt (chunk (s.take i) q)) := by
  simp [wordsTo, h]
theorem wordsTo_step (s : List UInt8) (m i : Nat) (h : i < s.length) (hm : i / 8 < m) : (wordsTo s m i).set (1 + i / 8) (wordAt (chunk (s.take i) (i / 8) ++ [s[i]])) = wordsTo s m (i + 1) := by
  rw [← chunk_here s i h]
  apply List.ext_getElem?
  intro k
  rw [List.getElem?_set]
  cases k with
  | zero =>
    rw [if_neg (by omega)]
    simp [wordsTo]
  | succ q =>
    by_cases hq : q < m
    · rw [wordsTo_get s m _ q hq, wordsTo_get s m _ q hq]
      by_cases e : q = i / 8
      · subst e
        rw [if_pos (by omega), if_pos (by rw [len_wordsTo]; omega)]
      · rw [if_neg (by omega), chunk_other s i q e]
    · rw [if_neg (by omega), List.getElem?_eq_none (by rw [len_wordsTo]; omega), List.getElem?_eq_none (by rw [len_wordsTo]; omega)]
/-- A text's words. -/
def wordsF (s : List UInt8) : List Int := wordsTo s ((s.length + 7) / 8) s.length
theorem wordsF_get (s : List UInt8) (q : Nat) (h : q < (s.length + 7) / 8) : (wordsF s)[q + 1]? = some (wordAt (chunk s q)) := by
  unfold wordsF
  rw [wordsTo_get s _ _ q h, List.take_length]
/-- A text's bytes, got from its words. -/
theorem byte_back (s : List UInt8) (i : Nat) (h : i < s.length) (x : Int) (hx : (wordsF s)[1 + i / 8]? = some x) : IntKind.u8.wrap (x.fdiv (2 ^ (8 * (i % 8)))) = ((s[i]).toNat : Int) := by
  rw [Nat.add_comm, wordsF_get s _ (by omega)] at hx
  injection hx with hx
  subst hx
  have hc : i % 8 < (chunk s (i / 8)).length := by simp only [chunk, List.length_take, List.length_drop]; omega
  rw [shr_word (chunk s (i / 8)) (i % 8) hc (by simp only [chunk, List.length_take]; omega)]
  have : (chunk s (i / 8))[i % 8]'hc = s[i] := by
    simp only [chunk, List.getElem_take, List.getElem_drop]
    congr 1
    omega
  rw [this]
end Go.Proofs.Ytefiliomfiomfac
