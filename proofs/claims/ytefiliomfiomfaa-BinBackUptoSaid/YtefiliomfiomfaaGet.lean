/- bin.Get: the number at a place. -/
import Derived.Test.YtefiliomfiomfaaVal
namespace Go.Proofs.Ytefiliomfiomfaa
open Go.RowKit

theorem belowN {B : Nat} {a w : World} (h : Below B a w) (n : Nat) : Below B a (w.drewN n) := h.trans ⟨rfl, rfl, rfl, Nat.le_refl _, fun _ _ => rfl⟩
def tup (r : Int × Int × Int) : Value := .tuple #[.int .i64 r.1, .int .i64 r.2.1, .int .i64 r.2.2]
theorem get11_low (v : Value) (p : Int) (w : World) (h : p < 0) : Calls Try.prog 11 #[v, .int .i64 p] w fun e w' => e = .returned (tup (0, 0, 3)) ∧ Below w.heap.size w w' := by
  go_enter Try.func11, Try.ntmps11
  go_wp2
  go_ret3
  exact ⟨rfl, Below.refl _ _⟩
theorem get11_high (a : Option Addr) (n c : Nat) (p : Int) (w : World) (h0 : 0 ≤ p) (h : (n : Int) < p) : Calls Try.prog 11 #[.slice a n c, .int .i64 p] w fun e w' => e = .returned (tup (0, 0, 3)) ∧ Below w.heap.size w w' := by
  go_enter Try.func11, Try.ntmps11
  go_wp2
  go_ret3
  exact ⟨rfl, Below.refl _ _⟩

set_option maxRecDepth 100000 in
set_option maxHeartbeats 2000000 in
theorem get11_none (a : Option Addr) (n c : Nat) (b : List UInt8) (p : Nat) (w : World) (hv : Rd w (.slice a n c) b) (hn : n = b.length) (hp : p = n) (hbig : n ≤ 140737488355328) :
    Calls Try.prog 11 #[.slice a n c, .int .i64 (p : Int)] w fun e w' => e = .returned (tup (0, 0, 4)) ∧ Below w.heap.size w w' := by
  subst hn
  obtain ⟨a', hsl, _⟩ := Rd.drop p (by omega) hv
  have hlen : b.length - p = 0 := by omega
  rw [hlen] at hsl
  have hp' : p ≤ b.length := by omega
  clear hv hp hlen
  go_enter Try.func11, Try.ntmps11
  go_wp2
  go_quiet (fail)
  clear hsl
  go_wp2
  refine wp_loop_rounds 1 ?_
  rw [rounds_succ]
  go_wp2
  go_ret3
  exact ⟨rfl, belowN (Below.refl _ _) _⟩

set_option maxRecDepth 100000 in
set_option maxHeartbeats 2000000 in
theorem get11_long (a : Option Addr) (n c : Nat) (b : List UInt8) (p : Nat) (w : World) (hv : Rd w (.slice a n c) b) (hn : n = b.length) (hp : p < n) (hbig : n ≤ 140737488355328) (r : List UInt8) (hr : b.drop p = r)
    (hall : ∀ j (h : j < r.length), j < 10 → 128 ≤ (r[j]'h).toNat) :
    Calls Try.prog 11 #[.slice a n c, .int .i64 (p : Int)] w fun e w' => e = .returned (tup (if 10 ≤ r.length then (0, 0, 5) else (0, 0, 4))) ∧ Below w.heap.size w w' := by
  subst hn
  obtain ⟨a', hsl, hrd⟩ := Rd.drop p (by omega) hv
  have hlen : b.length - p = r.length := by rw [← hr, List.length_drop]
  rw [hr] at hrd
  rw [hlen] at hsl hrd
  obtain ⟨a1, c1, e, hc, _, hcells⟩ := hrd
  injection e with e1 e2 e3
  subst e1 e3
  have hr0 : r ≠ [] := by intro e; subst e; simp at hlen; omega
  obtain ⟨B, o, rfl, hB, hcs⟩ := hcells hr0
  have HCELL := Lib.hid hcs
  have HALL := Lib.hid hall
  have hrb : r.length ≤ 140737488355328 := by omega
  clear hv hr e2 hcells hlen hall hr0 hcs
  go_enter Try.func11, Try.ntmps11
  go_wp2
  go_quiet (fail)
  clear hsl
  go_wp2
  go_loop [7, 27] (fun u i => ∃ (U : Int) (k : Nat), k ≤ r.length ∧ k ≤ 10 ∧ i = .int .i64 k ∧ u = .int .u64 U) (fun _ i => r.length - (intOf i).toNat)
  case atStart => exact ⟨0, 0, Nat.zero_le _, by omega, rfl, rfl⟩
  case round =>
    obtain ⟨U, k, hk, hk10, rfl, rfl⟩ := hrel
    by_cases hlt : k < r.length
    · have hcell := HCELL.out k hlt
      by_cases h10 : k = 10
      · subst h10
        have h10' : 10 ≤ r.length := by omega
        generalize r[10] = y at hcell
        unfold bv at hcell
        go_wp2
        go_ret3
        exact ⟨rfl, belowN (Below.refl _ _) _⟩
      · have hy := HALL.out k hlt (by omega)
        have hkk : k < 10 := by omega
        generalize r[k] = y at hcell hy
        unfold bv at hcell
        have hy' : (128 : Int) ≤ (y.toNat : Int) := by omega
        have hne : ((k : Int) == 10) = false := by rw [beq_eq_false_iff_ne]; omega
        clear hy h10
        go_wp2
        go_round
        case rel => exact ⟨_, k + 1, by omega, by omega, by go_num, rfl⟩
        case measure => simp [intOf]; omega
    · have : k = r.length := by omega
      subst this
      by_cases h10 : 10 ≤ r.length
      · go_wp2
        go_ret3
        exact ⟨rfl, belowN (Below.refl _ _) _⟩
      · go_wp2
        go_ret3
        exact ⟨rfl, belowN (Below.refl _ _) _⟩

theorem or_step (V x k : Nat) (hk : k ≤ 9) (hV : V < 2 ^ (k * 7)) : V ||| (x * 2 ^ (k * 7) % 18446744073709551616) = (V + x * 2 ^ (k * 7)) % 18446744073709551616 := by
  have hM : (18446744073709551616 : Nat) = 2 ^ (k * 7) * 2 ^ (64 - k * 7) := by
    rw [← Nat.pow_add]
    have : k * 7 + (64 - k * 7) = 64 := by omega
    rw [this]
  have h2 := Nat.two_pow_pos (64 - k * 7)
  rw [hM, Nat.mul_comm x, Nat.mul_mod_mul_left]
  have hq := Nat.mod_lt x h2
  generalize hqe : x % 2 ^ (64 - k * 7) = q at *
  rw [Nat.or_comm, ← Nat.two_pow_add_eq_or_of_lt hV q]
  have e : x = q + 2 ^ (64 - k * 7) * (x / 2 ^ (64 - k * 7)) := by rw [← hqe]; exact (Nat.mod_add_div _ _).symm
  generalize x / 2 ^ (64 - k * 7) = z at e
  generalize hA : 2 ^ (k * 7) = A at *
  generalize hB : 2 ^ (64 - k * 7) = B at *
  have e2 : V + A * x = (A * q + V) + A * B * z := by
    rw [e, Nat.mul_add, Nat.mul_assoc]
    omega
  rw [e2, Nat.add_mul_mod_self_left, Nat.mod_eq_of_lt]
  have : A * (q + 1) ≤ A * B := Nat.mul_le_mul_left A hq
  rw [Nat.mul_add] at this
  omega
theorem pow_128 (k : Nat) : 128 ^ k = 2 ^ (k * 7) := by rw [Nat.mul_comm, Nat.pow_mul]
theorem or_next (r : List UInt8) (k : Nat) (hk : k ≤ 9) (hlt : k < r.length) (y : UInt8) (hy : r[k] = y) :
    bits .or .u64 ((val (r.take k) % 18446744073709551616 : Nat) : Int) (IntKind.u64.wrap (IntKind.u64.wrap (bits .and .u8 (y.toNat : Int) 127) * 2 ^ (k * 7))) = ((val (r.take (k + 1)) % 18446744073709551616 : Nat) : Int) := by
  have hv := val_lt (r.take k)
  rw [List.length_take, Nat.min_eq_left (by omega), pow_128] at hv
  have hp : 2 ^ (k * 7) ≤ 2 ^ 63 := Nat.pow_le_pow_right (by decide) (by omega)
  have hv0 : val (r.take k) % 18446744073709551616 = val (r.take k) := Nat.mod_eq_of_lt (by omega)
  have ha : bits .and .u8 (y.toNat : Int) 127 = ((y.toNat % 128 : Nat) : Int) := by
    have h := bits_mask .u8 8 (by decide) wraps_u8 7 (by omega) (y.toNat : Int) (by omega) (by have := y.toNat_lt; omega)
    have e : ((2 : Int) ^ 7 - 1) = 127 := by decide
    rw [e] at h
    rw [h]
    omega
  have ht : r.take (k + 1) = r.take k ++ [y] := by rw [List.take_succ_eq_append_getElem hlt, hy]
  rw [ha, IntKind.wrap_u64, IntKind.wrap_u64, hv0]
  have e1 : (((y.toNat % 128 : Nat) : Int) % 18446744073709551616 * 2 ^ (k * 7)) % 18446744073709551616 = ((y.toNat % 128 * 2 ^ (k * 7) % 18446744073709551616 : Nat) : Int) := by
    have : (((y.toNat % 128 : Nat) : Int) % 18446744073709551616) = ((y.toNat % 128 : Nat) : Int) := by omega
    rw [this]
    simp
  rw [e1, bits_or_u64_nat _ _ (by omega) (Nat.mod_lt _ (by decide)), or_step _ _ _ hk hv, ht, val_snoc, List.length_take, Nat.min_eq_left (by omega), pow_128]

theorem unz_bits (U : Nat) (h : U < 18446744073709551616) : bits .xor .i64 ((U : Int) / 2) (wrap64 (-wrap64 (bits .and .u64 (U : Int) 1))) = unz U := by
  have ha : bits .and .u64 (U : Int) 1 = ((U % 2 : Nat) : Int) := by
    have := bits_and_u64_nat U 1 h (by decide)
    rw [Nat.and_one_is_mod] at this
    exact this
  rw [ha]
  have e0 : ((U : Int) / 2) = ((U / 2 : Nat) : Int) := by omega
  rw [e0]
  unfold unz
  have hx : U / 2 < 9223372036854775808 := by omega
  generalize U / 2 = x at hx
  by_cases hm : U % 2 = 0
  · rw [if_pos hm, hm]
    have w0 : wrap64 (-wrap64 ((0 : Nat) : Int)) = 0 := by decide +kernel
    rw [w0]
    show IntKind.i64.wrap (((BitVec.ofInt 64 (x : Int)) ^^^ (BitVec.ofInt 64 0)).toNat : Int) = _
    have : (BitVec.ofInt 64 (x : Int)) ^^^ (BitVec.ofInt 64 0) = BitVec.ofInt 64 (x : Int) := by
      show (BitVec.ofInt 64 (x : Int)) ^^^ 0#64 = _
      rw [BitVec.xor_zero]
    rw [this, BitVec.ofInt_natCast, BitVec.toNat_ofNat, Nat.mod_eq_of_lt (by omega), IntKind.wrap_i64]
    omega
  · have hm1 : U % 2 = 1 := by omega
    rw [if_neg hm, hm1]
    have w0 : wrap64 (-wrap64 ((1 : Nat) : Int)) = -1 := by decide +kernel
    rw [w0]
    show IntKind.i64.wrap (((BitVec.ofInt 64 (x : Int)) ^^^ (BitVec.ofInt 64 (-1))).toNat : Int) = _
    rw [BitVec.toNat_xor, BitVec.ofInt_natCast, BitVec.toNat_ofNat, Nat.mod_eq_of_lt (by omega)]
    have : (BitVec.ofInt 64 (-1)).toNat = 18446744073709551615 := by decide
    rw [this, xor_ones _ (by omega), IntKind.wrap_i64]
    omega
theorem rd_ten {w : World} {u : Nat} (hu : u < 18446744073709551616) (fr : Nat × Nat) (T : TypeId) : Rd (w.alloc (.cells (cellsOf (ten u)) T fr)) (.slice (some ⟨w.heap.size, 0, none⟩) (enc u).length 10) (enc u) := by
  refine ⟨_, 10, rfl, enc_ten u hu, (fun h => by cases h), fun _ => ⟨w.heap.size, 0, rfl, by simp, ?_⟩⟩
  intro i hi
  rw [Nat.zero_add, World.cell?_alloc_mark]
  unfold cellsOf ten
  simp only [List.getElem?_toArray, List.map_append]
  rw [List.getElem?_append_left (by simpa using hi), List.getElem?_map, List.getElem?_eq_getElem hi]
  rfl
theorem Rd.drewN {w : World} {v : Value} {l : List UInt8} (h : Rd w v l) (n : Nat) : Rd (w.drewN n) v l := h.below (belowN (Below.refl _ _) n)

def getT (U : Nat) (T : List UInt8) (p K : Nat) : Int × Int × Int := if enc U = T then (unz U, (p : Int) + (K : Int) + 1, 0) else (0, 0, 5)

set_option maxRecDepth 100000 in
set_option maxHeartbeats 1000000 in
theorem get11_term (a : Option Addr) (n c : Nat) (b : List UInt8) (p : Nat) (w : World) (hv : Rd w (.slice a n c) b) (hn : n = b.length) (hp : p < n) (hbig : n ≤ 140737488355328) (r : List UInt8) (hr : b.drop p = r)
    (K : Nat) (hK : K < r.length) (hK10 : K < 10) (hall : ∀ j (h : j < r.length), j < K → 128 ≤ (r[j]'h).toNat) (hend : (r[K]'hK).toNat < 128) :
    Calls Try.prog 11 #[.slice a n c, .int .i64 (p : Int)] w fun e w' => e = .returned (tup (getT (val (r.take (K + 1)) % 18446744073709551616) (r.take (K + 1)) p K)) ∧ Below w.heap.size w w' := by
  obtain ⟨U1, hU1⟩ : ∃ U1, U1 = val (r.take (K + 1)) % 18446744073709551616 := ⟨_, rfl⟩
  rw [← hU1]
  have hU1b : U1 < 18446744073709551616 := by rw [hU1]; exact Nat.mod_lt _ (by decide)
  have HU1 := Lib.hid hU1
  have HU1B := Lib.hid hU1b
  clear hU1 hU1b
  subst hn
  obtain ⟨a', hsl, hrd⟩ := Rd.drop p (by omega) hv
  have hlen : b.length - p = r.length := by rw [← hr, List.length_drop]
  rw [hr] at hrd
  rw [hlen] at hsl hrd
  obtain ⟨a1, c1, e, hc, _, hcells⟩ := id hrd
  injection e with e1 e2 e3
  subst e1 e3
  have hr0 : r ≠ [] := by intro e; subst e; simp at hlen; omega
  obtain ⟨B, o, rfl, hB, hcs⟩ := hcells hr0
  have HRD := Lib.hid hrd
  have HCELL := Lib.hid hcs
  have HALL := Lib.hid hall
  have HEND := Lib.hid hend
  have hrb : r.length ≤ 140737488355328 := by omega
  clear hv hr e2 hcells hlen hall hr0 hcs hrd hend
  go_enter Try.func11, Try.ntmps11
  go_wp2
  go_quiet (fail)
  clear hsl
  go_wp2
  go_loop [7, 27] (fun u i => ∃ (k : Nat), k ≤ K ∧ i = .int .i64 k ∧ u = .int .u64 ((val (r.take k) % 18446744073709551616 : Nat))) (fun _ i => r.length - (intOf i).toNat)
  case atStart => exact ⟨0, Nat.zero_le _, rfl, rfl⟩
  case round =>
    obtain ⟨k, hk, rfl, rfl⟩ := hrel
    have hlt : k < r.length := by omega
    have hcell := HCELL.out k hlt
    have hne : ((k : Int) == 10) = false := by rw [beq_eq_false_iff_ne]; omega
    by_cases hkK : k < K
    · have hy := HALL.out k hlt hkK
      have hor := or_next r k (by omega) hlt _ rfl
      generalize r[k] = y at hcell hy hor
      unfold bv at hcell
      have hy' : (128 : Int) ≤ (y.toNat : Int) := by omega
      have hkk : k < 9 := by omega
      clear hy
      have HOR := Lib.hid hor
      clear hor
      generalize val (r.take k) % 18446744073709551616 = U at *
      go_wp2
      go_round
      case rel => exact ⟨k + 1, by omega, by go_num, by rw [HOR.out]⟩
      case measure => simp [intOf]; omega
    · have : k = K := by omega
      subst this
      have hy := HEND.out
      have hor := or_next r k (by omega) hlt _ rfl
      generalize r[k] = y at hcell hy hor
      unfold bv at hcell
      have hy' : (y.toNat : Int) < 128 := by omega
      clear hy
      generalize val (r.take k) % 18446744073709551616 = U at *
      rw [← HU1.out] at hor
      have hun : bits .xor .i64 (wrap64 ((U1 : Int) / 2)) (wrap64 (-wrap64 (bits .and .u64 (U1 : Int) 1))) = unz U1 := by
        have e : wrap64 ((U1 : Int) / 2) = (U1 : Int) / 2 := by have := HU1B.out; unfold wrap64; omega
        rw [e]; exact unz_bits U1 HU1B.out
      have hrng := unz_rng U1 HU1B.out
      have hp22 := fun w => pieces22 (unz U1) w hrng.1 hrng.2
      rw [zig_unz] at hp22
      have ht := ten_len U1 HU1B.out
      obtain ⟨c0, c1, c2, c3, c4, c5, c6, c7, c8, c9, hten⟩ : ∃ c0 c1 c2 c3 c4 c5 c6 c7 c8 c9, ten U1 = [c0, c1, c2, c3, c4, c5, c6, c7, c8, c9] := by
        generalize ten U1 = l at ht
        match l, ht with
        | [c0, c1, c2, c3, c4, c5, c6, c7, c8, c9], _ => exact ⟨c0, c1, c2, c3, c4, c5, c6, c7, c8, c9, rfl⟩
      have hce : cellsOf (ten U1) = #[.int .u8 c0.toNat, .int .u8 c1.toNat, .int .u8 c2.toNat, .int .u8 c3.toNat, .int .u8 c4.toNat, .int .u8 c5.toNat, .int .u8 c6.toNat, .int .u8 c7.toNat, .int .u8 c8.toNat, .int .u8 c9.toNat] := by
        rw [hten]; rfl
      rw [hce] at hp22
      have hl10 := enc_ten U1 HU1B.out
      have hrdt := fun w => rd_ten (w := w) HU1B.out (0, 0) 41
      rw [hce] at hrdt
      obtain ⟨m, hm⟩ : ∃ m, m = (enc U1).length := ⟨_, rfl⟩
      rw [← hm] at hp22 hrdt hl10
      have HP := Lib.hid hp22
      have HRDT := Lib.hid hrdt
      have HM := Lib.hid hm
      clear hp22 hrdt hce hten ht hm hrng
      obtain ⟨N, hN⟩ : ∃ N, N = unz U1 := ⟨_, rfl⟩
      rw [← hN] at hun HP
      have HN := Lib.hid hN
      clear hN
      have htk := fun w (h : Rd w (.slice (some ⟨B, o, none⟩) r.length (c - p)) r) => Rd.take (k + 1) (by omega) h
      have HTK := Lib.hid htk
      clear htk
      go_wp2_with fail
      refine (HP.out _).mono ?_
      rintro e w1 ⟨rfl, hb1⟩
      have HB1 := Lib.hid hb1
      clear hb1
      go_wp2_with fail
      obtain ⟨w2, hw2⟩ : ∃ w2, w2 = w1.alloc (.cells #[.int .u8 c0.toNat, .int .u8 c1.toNat, .int .u8 c2.toNat, .int .u8 c3.toNat, .int .u8 c4.toNat, .int .u8 c5.toNat, .int .u8 c6.toNat, .int .u8 c7.toNat, .int .u8 c8.toNat, .int .u8 c9.toNat] 41) := ⟨_, rfl⟩
      rw [← hw2]
      have hb2 : Below w.heap.size w w2 := by
        rw [hw2]
        have h1 := HB1.out.size
        exact ((belowN (Below.refl _ _) nq).trans (HB1.out.mono (by simp))).alloc (by simpa using h1) _
      have hr1 : Rd w2 (.slice (some ⟨w1.heap.size, 0, none⟩) m 10) (enc U1) := by rw [hw2]; exact HRDT.out w1
      have hr2 : Rd w2 (.slice (some ⟨B, o, none⟩) (k + 1) (c - p)) (r.take (k + 1)) := (HTK.out w2 (HRD.out.below hb2)).2
      have hs1 := sl41 w1.heap.size m hl10
      have hs2 := (HTK.out w HRD.out).1
      have heq := fun nn => equal24 _ _ _ _ (w2.drewN nn) (hr1.drewN nn) (hr2.drewN nn) (by rw [← HM.out]; omega)
      have HB2 := Lib.hid hb2
      clear hw2 hb2 hr1 hr2 HTK HP HRDT HB1
      have hk1 : ((k + 1 : Nat) : Int) = (k : Int) + 1 := by omega
      rw [hk1] at hs2
      clear hk1
      obtain ⟨T, hT⟩ : ∃ T, T = r.take (k + 1) := ⟨_, rfl⟩
      have hg : getT U1 (r.take (k + 1)) p k = getT U1 T p k := by rw [hT]
      have HG := Lib.hid hg
      rw [← hT] at heq
      clear hT hg
      have z1 := HB2.out
      by_cases hEQ : enc U1 = T
      · have hq : (enc U1 == T) = true := by rw [beq_iff_eq]; exact hEQ
        rw [hq] at heq
        have hg2 : getT U1 T p k = (N, (p : Int) + (k : Int) + 1, 0) := by unfold getT; rw [if_pos hEQ, HN.out]
        have HEQ := Lib.hid heq
        have HG2 := Lib.hid hg2
        clear heq hEQ hq hg2 z1
        go_quiet ((go_at_call 24; exact Calls.quiet_of (HEQ.out _)))
        clear hs1 hs2
        go_wp2
        go_ret3
        exact ⟨(by rw [HG.out, HG2.out]; rfl), belowN HB2.out _⟩
      · have hq : (enc U1 == T) = false := by rw [beq_eq_false_iff_ne]; exact hEQ
        rw [hq] at heq
        have hg2 : getT U1 T p k = (0, 0, 5) := by unfold getT; rw [if_neg hEQ]
        have HEQ := Lib.hid heq
        have HG2 := Lib.hid hg2
        clear heq hEQ hq hg2 z1
        go_quiet ((go_at_call 24; exact Calls.quiet_of (HEQ.out _)))
        clear hs1 hs2
        go_wp2
        go_ret3
        exact ⟨(by rw [HG.out, HG2.out]; rfl), belowN HB2.out _⟩

/-- bin.Get. -/
theorem get11 (v : Value) (b : List UInt8) (p : Int) (w : World) (hv : Rd w v b) (hbig : b.length ≤ 140737488355328) :
    Calls Try.prog 11 #[v, .int .i64 p] w fun e w' => e = .returned (tup (getF b p)) ∧ Below w.heap.size w w' := by
  unfold getF
  by_cases h1 : p < 0
  · rw [if_pos (.inl h1)]
    exact get11_low v p w h1
  by_cases h2 : (b.length : Int) < p
  · rw [if_pos (.inr h2)]
    obtain ⟨a, c, rfl, _⟩ := id hv
    exact get11_high a _ c p w (by omega) h2
  rw [if_neg (by omega)]
  obtain ⟨q, rfl⟩ : ∃ q : Nat, p = q := ⟨p.toNat, by omega⟩
  rw [Int.toNat_natCast]
  obtain ⟨a, c, rfl, _⟩ := id hv
  have hle := endAt_le (b.drop q)
  have hdl : (b.drop q).length = b.length - q := List.length_drop
  by_cases h3 : q = b.length
  · have e : getL (b.drop q) q = (0, 0, 4) := by
      unfold getL
      rw [if_neg (by omega), if_pos (by omega)]
    rw [e]
    exact get11_none a _ c b q w hv rfl h3 hbig
  have hlong : ∀ (_ : 10 ≤ endAt (b.drop q) ∨ (b.drop q).length ≤ endAt (b.drop q)), ∀ j (h : j < (b.drop q).length), j < 10 → 128 ≤ ((b.drop q)[j]'h).toNat := by
    intro hh j hj h10
    exact endAt_lt (by omega) hj
  unfold getL
  by_cases h10 : 10 ≤ endAt (b.drop q)
  · rw [if_pos h10]
    have := get11_long a _ c b q w hv rfl (by omega) hbig _ rfl (hlong (.inl h10))
    rw [if_pos (by omega)] at this
    exact this
  rw [if_neg h10]
  by_cases hl : (b.drop q).length ≤ endAt (b.drop q)
  · rw [if_pos hl]
    have := get11_long a _ c b q w hv rfl (by omega) hbig _ rfl (hlong (.inr hl))
    rw [if_neg (by omega)] at this
    exact this
  rw [if_neg hl]
  exact get11_term a _ c b q w hv rfl (by omega) hbig _ rfl (endAt (b.drop q)) (by omega) (by omega) (fun j hj hlt => endAt_lt hlt hj) (endAt_is (by omega))
end Go.Proofs.Ytefiliomfiomfaa
