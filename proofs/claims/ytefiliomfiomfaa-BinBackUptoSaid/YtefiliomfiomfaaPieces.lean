/- bin.pieces: a number's bytes. -/
import Derived.Test.YtefiliomfiomfaaRows
import Derived.WalkKit
import Derived.WalkSpells
import Derived.WalkLawsBesides
import Derived.Handy
import Derived.Lib.Hide
namespace Go.Proofs.Ytefiliomfiomfaa
open Go.RowKit

/-- A byte as a value. -/
def bv (c : UInt8) : Value := .int .u8 c.toNat
/-- A number's bytes, of the number without its sign. -/
def enc (u : Nat) : List UInt8 := if _h : u < 128 then [UInt8.ofNat u] else UInt8.ofNat (u % 128 + 128) :: enc (u / 128)
  termination_by u
def zig (n : Int) : Nat := if n < 0 then (-2 * n - 1).toNat else (2 * n).toNat
theorem enc_small {u : Nat} (h : u < 128) : enc u = [UInt8.ofNat u] := by rw [enc, dif_pos h]
theorem enc_big {u : Nat} (h : ¬ u < 128) : enc u = UInt8.ofNat (u % 128 + 128) :: enc (u / 128) := by rw [enc, dif_neg h]
theorem enc_len (u : Nat) : ∀ k, u < 128 ^ (k + 1) → (enc u).length ≤ k + 1 := by
  induction u using Nat.strongRecOn with
  | ind u ih =>
    intro k hk
    by_cases h : u < 128
    · rw [enc_small h]; simp
    · rw [enc_big h]
      cases k with
      | zero => omega
      | succ k =>
        have := ih (u / 128) (by omega) k (by rw [Nat.pow_succ] at hk; omega)
        simp; omega
theorem enc_ne (u : Nat) : enc u ≠ [] := by
  by_cases h : u < 128
  · rw [enc_small h]; simp
  · rw [enc_big h]; simp
theorem enc_pos (u : Nat) : 0 < (enc u).length := by
  have := enc_ne u
  cases h : enc u with
  | nil => exact absurd h this
  | cons _ _ => simp
theorem enc_ten (u : Nat) (h : u < 18446744073709551616) : (enc u).length ≤ 10 := enc_len u 9 (by omega)
theorem zig_lt (n : Int) (hlo : -9223372036854775808 ≤ n) (hhi : n ≤ 9223372036854775807) : zig n < 18446744073709551616 := by
  unfold zig; split <;> omega
theorem xor_ones (a : Nat) (h : a < 18446744073709551616) : a ^^^ 18446744073709551615 = 18446744073709551615 - a := by
  apply Nat.eq_of_testBit_eq
  intro i
  have e1 : (18446744073709551615 - a).testBit i = (decide (i < 64) && !a.testBit i) := by
    have := Nat.testBit_two_pow_sub_succ (n := 64) (x := a) h i
    rw [← this]
    congr 1
    omega
  have e2 : (18446744073709551615 : Nat).testBit i = decide (i < 64) := by
    have := Nat.testBit_two_pow_sub_one 64 i
    exact this
  rw [Nat.testBit_xor, e1, e2]
  by_cases hi : i < 64
  · simp [hi]
  · have : a.testBit i = false := Nat.testBit_lt_two_pow (Nat.lt_of_lt_of_le h (by
      have := Nat.pow_le_pow_right (n := 2) (by omega) (show 64 ≤ i by omega)
      omega))
    simp [hi, this]
theorem zig_bits (n : Int) (hlo : -9223372036854775808 ≤ n) (hhi : n ≤ 9223372036854775807) :
    bits .xor .u64 (IntKind.u64.wrap (IntKind.u64.wrap n * 2)) (IntKind.u64.wrap (n / 9223372036854775808)) = (zig n : Int) := by
  rw [IntKind.wrap_u64, IntKind.wrap_u64, IntKind.wrap_u64]
  unfold zig
  by_cases h : n < 0
  · rw [if_pos h]
    have e1 : (n % 18446744073709551616 * 2) % 18446744073709551616 = ((2 * n + 18446744073709551616).toNat : Int) := by omega
    have e2 : (n / 9223372036854775808) % 18446744073709551616 = ((18446744073709551615 : Nat) : Int) := by omega
    rw [e1, e2, bits_xor_u64_nat _ _ (by omega) (by omega), xor_ones _ (by omega)]
    omega
  · rw [if_neg h]
    have e1 : (n % 18446744073709551616 * 2) % 18446744073709551616 = ((2 * n).toNat : Int) := by omega
    have e2 : (n / 9223372036854775808) % 18446744073709551616 = ((0 : Nat) : Int) := by omega
    rw [e1, e2, bits_xor_u64_nat _ _ (by omega) (by omega), Nat.xor_zero]

theorem or_128 (x : Nat) (h : x < 256) : x ||| 128 = x % 128 + 128 := by
  have : ∀ x : Fin 256, x.val ||| 128 = x.val % 128 + 128 := by decide +kernel
  exact this ⟨x, h⟩
theorem or_byte (U : Nat) : bits .or .u8 ((U : Int) % 256) 128 = ((UInt8.ofNat (U % 128 + 128)).toNat : Int) := by
  have e : ((U : Int) % 256) = ((U % 256 : Nat) : Int) := by omega
  have h := or_128 (U % 256) (by omega)
  have b := (bits_nat .u8 8 (by decide) wraps_u8 (U % 256) 128 (by omega) (by omega)).2
  rw [e]
  refine b.trans ?_
  rw [h, UInt8.toNat_ofNat']
  omega

def zeros (k : Nat) : List UInt8 := List.replicate k 0
def cellsOf (l : List UInt8) : Array Value := (l.map bv).toArray
/-- What the loop of pieces keeps. -/
def PInv (u0 : Nat) (w : World) (vu vk : Value) (wr : World) : Prop :=
  ∃ (U : Nat) (L : List UInt8), vu = .int .u64 U ∧ vk = .int .i64 L.length ∧ enc u0 = L ++ enc U ∧ U < 18446744073709551616 ∧
    wr = (w.alloc (.cells #[.int .u8 0, .int .u8 0, .int .u8 0, .int .u8 0, .int .u8 0, .int .u8 0, .int .u8 0, .int .u8 0, .int .u8 0, .int .u8 0] 41)).alloc (.cells (cellsOf (L ++ zeros (10 - L.length))) 41)
theorem set_next (L : List UInt8) (c : UInt8) (h : L.length < 10) :
    (cellsOf (L ++ zeros (10 - L.length))).setIfInBounds L.length (.int .u8 c.toNat) = cellsOf (L ++ [c] ++ zeros (9 - L.length)) := by
  have e : zeros (10 - L.length) = 0 :: zeros (9 - L.length) := by
    unfold zeros
    rw [← List.replicate_succ]
    congr 1
    omega
  rw [e]
  unfold cellsOf
  rw [List.setIfInBounds_toArray]
  congr 1
  rw [List.map_append, List.map_cons, List.set_append_right _ _ (by simp)]
  simp [bv]
theorem len_room {u0 U : Nat} {L : List UInt8} (h0 : u0 < 18446744073709551616) (h : enc u0 = L ++ enc U) : L.length + (enc U).length ≤ 10 := by
  have := enc_ten u0 h0
  rw [h, List.length_append] at this
  exact this
theorem p_step {u0 : Nat} {w : World} {U : Nat} {L : List UInt8} (h0 : u0 < 18446744073709551616) (he : enc u0 = L ++ enc U) (hU : 128 ≤ U) (hb : U < 18446744073709551616) :
    PInv u0 w (.int .u64 ((U : Int) / 128)) (.int .i64 ((L.length : Int) + 1)) ((w.alloc (.cells #[.int .u8 0, .int .u8 0, .int .u8 0, .int .u8 0, .int .u8 0, .int .u8 0, .int .u8 0, .int .u8 0, .int .u8 0, .int .u8 0] 41)).alloc (.cells ((cellsOf (L ++ zeros (10 - L.length))).setIfInBounds L.length (.int .u8 (bits .or .u8 ((U : Int) % 256) 128))) 41)) := by
  have hr := len_room h0 he
  rw [enc_big (u := U) (by omega)] at he hr
  refine ⟨U / 128, L ++ [UInt8.ofNat (U % 128 + 128)], by simp, by simp, by rw [he]; simp, by omega, ?_⟩
  rw [or_byte, set_next _ _ (by simp at hr; omega)]
  congr 3
  simp
theorem p_last {u0 U : Nat} {L : List UInt8} (h0 : u0 < 18446744073709551616) (he : enc u0 = L ++ enc U) (hU : ¬ 128 ≤ U) :
    L.length + 1 = (enc u0).length ∧ (cellsOf (L ++ zeros (10 - L.length))).setIfInBounds L.length (.int .u8 (U : Int)) = cellsOf (enc u0 ++ zeros (10 - (enc u0).length)) := by
  have hr := len_room h0 he
  rw [enc_small (u := U) (by omega)] at he hr
  have hl : (enc u0).length = L.length + 1 := by rw [he]; simp
  refine ⟨hl.symm, ?_⟩
  have e : (U : Int) = ((UInt8.ofNat U).toNat : Int) := by rw [UInt8.toNat_ofNat']; omega
  rw [e, set_next _ _ (by simp at hr; omega), hl, he]
  congr 3
  omega
/-- The ten bytes that pieces hands back. -/
def ten (u : Nat) : List UInt8 := enc u ++ zeros (10 - (enc u).length)
theorem ten_len (u : Nat) (h : u < 18446744073709551616) : (ten u).length = 10 := by
  have := enc_ten u h
  unfold ten zeros
  simp; omega

set_option maxRecDepth 100000 in
set_option maxHeartbeats 2000000 in
theorem pieces22 (n : Int) (w : World) (hlo : -9223372036854775808 ≤ n) (hhi : n ≤ 9223372036854775807) : Calls Try.prog 22 #[.int .i64 n] w fun e w' =>
    e = .returned (.tuple #[.agg (cellsOf (ten (zig n))), .int .i64 (enc (zig n)).length]) ∧ Below w.heap.size w w' := by
  obtain ⟨u0, hu0⟩ : ∃ u0, u0 = zig n := ⟨_, rfl⟩
  have h0 : u0 < 18446744073709551616 := by rw [hu0]; exact zig_lt n hlo hhi
  have hz := zig_bits n hlo hhi
  rw [← hu0] at hz ⊢
  have H0 := Lib.hid h0
  have HZ := Lib.hid hz
  clear hu0 h0 hz
  go_enter Try.func22, Try.ntmps22
  go_wp2
  go_loopw [4, 6] (PInv u0 w) (fun _ k _ => (10 - intOf k).toNat)
  case atStart => exact ⟨u0, [], by rw [HZ.out], rfl, rfl, H0.out, rfl⟩
  case round =>
    obtain ⟨U, L, rfl, rfl, he, hb, rfl⟩ := hrel
    by_cases h : 128 ≤ U
    · have hr := len_room H0.out he
      have hp := enc_pos U
      have hK : L.length < (cellsOf (L ++ zeros (10 - L.length))).size := by simp [cellsOf, zeros]; omega
      have hs := p_step (w := w) H0.out he h hb
      have hr2 : L.length < 10 := by omega
      have HS := Lib.hid hs
      have HE := Lib.hid he
      clear hs he hr hp
      generalize cellsOf (L ++ zeros (10 - L.length)) = C at *
      go_wp2
      go_roundw
      case rel => exact HS.out
      case measure => simp [intOf]; omega
    · have hr := len_room H0.out he
      have hp := enc_pos U
      obtain ⟨hl, hs⟩ := p_last H0.out he h
      have hK : L.length < (cellsOf (L ++ zeros (10 - L.length))).size := by simp [cellsOf, zeros]; omega
      have hr2 : L.length < 10 := by omega
      have ht := ten_len u0 H0.out
      have hten : cellsOf (ten u0) = cellsOf (enc u0 ++ zeros (10 - (enc u0).length)) := rfl
      rw [← hten] at hs
      have hl' : (enc u0).length = L.length + 1 := hl.symm
      obtain ⟨c0, c1, c2, c3, c4, c5, c6, c7, c8, c9, hc⟩ : ∃ c0 c1 c2 c3 c4 c5 c6 c7 c8 c9, ten u0 = [c0, c1, c2, c3, c4, c5, c6, c7, c8, c9] := by
        generalize ten u0 = l at ht
        match l, ht with
        | [c0, c1, c2, c3, c4, c5, c6, c7, c8, c9], _ => exact ⟨c0, c1, c2, c3, c4, c5, c6, c7, c8, c9, rfl⟩
      have hce : cellsOf (ten u0) = #[.int .u8 c0.toNat, .int .u8 c1.toNat, .int .u8 c2.toNat, .int .u8 c3.toNat, .int .u8 c4.toNat, .int .u8 c5.toNat, .int .u8 c6.toNat, .int .u8 c7.toNat, .int .u8 c8.toNat, .int .u8 c9.toNat] := by
        rw [hc]; rfl
      rw [hce] at hs
      have HCE := Lib.hid hce
      have HL := Lib.hid hl'
      clear he hr hp ht hten hl hc hce hl'
      generalize cellsOf (L ++ zeros (10 - L.length)) = C at *
      go_wp2
      go_returns
      refine ⟨?_, ((Below.refl _ _).alloc (Nat.le_refl _) _).alloc (by simp) _⟩
      rw [HCE.out, HL.out]
      rfl
end Go.Proofs.Ytefiliomfiomfaa
