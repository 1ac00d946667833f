/- What bytes are as a number; what Get answers; parts of slices. -/
import Derived.Test.YtefiliomfiomfaaEqual
namespace Go.Proofs.Ytefiliomfiomfaa
open Go.RowKit

def val : List UInt8 → Nat
  | [] => 0
  | c :: l => c.toNat % 128 + 128 * val l
theorem val_snoc (l : List UInt8) (c : UInt8) : val (l ++ [c]) = val l + (c.toNat % 128) * 128 ^ l.length := by
  induction l with
  | nil => simp [val]
  | cons d l ih =>
    simp only [List.cons_append, val, List.length_cons]
    rw [ih, Nat.pow_succ, Nat.mul_add, ← Nat.add_assoc]
    congr 1
    rw [Nat.mul_comm (128 ^ l.length) 128, Nat.mul_left_comm]
theorem val_lt (l : List UInt8) : val l < 128 ^ l.length := by
  induction l with
  | nil => simp [val]
  | cons d l ih =>
    simp only [val, List.length_cons, Nat.pow_succ]
    have := Nat.mod_lt d.toNat (show 0 < 128 by omega)
    omega
def unz (U : Nat) : Int := if U % 2 = 0 then ((U / 2 : Nat) : Int) else -((U / 2 : Nat) : Int) - 1
theorem zig_unz (U : Nat) : zig (unz U) = U := by
  unfold zig unz
  split <;> split <;> omega
theorem unz_zig (n : Int) : unz (zig n) = n := by
  unfold zig unz
  split <;> split <;> omega
theorem unz_rng (U : Nat) (h : U < 18446744073709551616) : -9223372036854775808 ≤ unz U ∧ unz U ≤ 9223372036854775807 := by
  unfold unz
  split <;> omega
/-- The place of the first byte that ends a number. -/
def endAt (l : List UInt8) : Nat := l.findIdx fun c => decide (c.toNat < 128)
def getL (l : List UInt8) (p : Nat) : Int × Int × Int :=
  if 10 ≤ endAt l then (0, 0, 5) else if l.length ≤ endAt l then (0, 0, 4)
  else if enc (val (l.take (endAt l + 1)) % 18446744073709551616) = l.take (endAt l + 1) then (unz (val (l.take (endAt l + 1)) % 18446744073709551616), (p : Int) + (endAt l : Int) + 1, 0) else (0, 0, 5)
def getF (b : List UInt8) (p : Int) : Int × Int × Int := if p < 0 ∨ (b.length : Int) < p then (0, 0, 3) else getL (b.drop p.toNat) p.toNat
theorem endAt_lt {l : List UInt8} {j : Nat} (h : j < endAt l) (hl : j < l.length) : 128 ≤ (l[j]'hl).toNat := by
  have := List.not_of_lt_findIdx h
  simpa using this
theorem endAt_is {l : List UInt8} (h : endAt l < l.length) : (l[endAt l]'h).toNat < 128 := by
  have := List.findIdx_getElem (p := fun c : UInt8 => decide (c.toNat < 128)) (w := h)
  exact of_decide_eq_true this
theorem endAt_le (l : List UInt8) : endAt l ≤ l.length := List.findIdx_le_length

/-- Parts of a slice. -/
theorem Rd.drop {w : World} {a : Option Addr} {c : Nat} {l : List UInt8} (p : Nat) (hp : p ≤ l.length) (h : Rd w (.slice a l.length c) l) :
    ∃ a', (∀ W, (Instr.slice 24 (.slice a l.length c) (some (.int .i64 (p : Int))) none none).run Try.prog W = .ok (.slice a' (l.length - p) (c - p)) W) ∧ Rd w (.slice a' (l.length - p) (c - p)) (l.drop p) := by
  obtain ⟨a1, c1, e, hc, hn, hcells⟩ := h
  injection e with e1 e2 e3
  subst e1 e3
  have hr : ∀ W, (Instr.slice 24 (.slice a l.length c) (some (.int .i64 (p : Int))) none none).run Try.prog W = .ok (sliced a p l.length c 1) W := by
    intro W
    rw [run_slice_l W 24 a l.length c (by simp [Program.elem, Try.underlying24]) .i64 (p : Int) (by omega) (by omega)]
    simp [go_sem, Program.elem, Try.underlying24]
  refine ⟨_, hr, ?_⟩
  refine ⟨_, c - p, by rw [List.length_drop], by rw [List.length_drop]; omega, ?_, ?_⟩
  · intro e
    cases a with
    | none => have := hn rfl; omega
    | some b => split at e <;> simp at e
  · intro hl
    have hlt : p < l.length := by
      rcases Nat.lt_or_ge p l.length with h | h
      · exact h
      · exact absurd (List.drop_eq_nil_of_le h) hl
    have hl0 : l ≠ [] := by intro e; subst e; simp at hlt
    obtain ⟨b, o, e, hb, hcs⟩ := hcells hl0
    subst e
    refine ⟨b, o + p, ?_, hb, ?_⟩
    · have : ¬ c = p := by omega
      simp [this, Addr.add]
    · intro i hi
      have : i + p < l.length := by rw [List.length_drop] at hi; omega
      rw [Nat.add_assoc, hcs (p + i) (by omega), List.getElem_drop]
theorem Rd.take {w : World} {a : Option Addr} {c : Nat} {l : List UInt8} (m : Nat) (hm : m ≤ l.length) (h : Rd w (.slice a l.length c) l) :
    (∀ W, (Instr.slice 24 (.slice a l.length c) none (some (.int .i64 (m : Int))) none).run Try.prog W = .ok (.slice a m c) W) ∧ Rd w (.slice a m c) (l.take m) := by
  obtain ⟨a1, c1, e, hc, hn, hcells⟩ := h
  injection e with e1 e2 e3
  subst e1 e3
  refine ⟨?_, ?_⟩
  · intro W
    rw [run_slice_h W 24 a l.length c (by simp [Program.elem, Try.underlying24]) .i64 (m : Int) (by omega) (by omega)]
    cases a with
    | none => simp [go_sem, Program.elem, Try.underlying24]
    | some b => simp [go_sem, Program.elem, Try.underlying24]
  · refine ⟨a, c, by rw [List.length_take, Nat.min_eq_left hm], by rw [List.length_take]; omega, hn, ?_⟩
    intro hl
    have hl0 : l ≠ [] := by intro e; subst e; simp at hl
    obtain ⟨b, o, e, hb, hcs⟩ := hcells hl0
    refine ⟨b, o, e, hb, ?_⟩
    intro i hi
    have : i < l.length := by rw [List.length_take] at hi; omega
    rw [hcs i this, List.getElem_take]

end Go.Proofs.Ytefiliomfiomfaa
