/- slices.Equal at slices of bytes. -/
import Derived.Test.YtefiliomfiomfaaPut
import Derived.Deep.LoopGhost
import Derived.Deep.Draws
import Derived.Deep.QuietTactic
import Derived.BigQuiet
namespace Go.Proofs.Ytefiliomfiomfaa
open Go.RowKit

set_option maxHeartbeats 2000000 in
set_option maxRecDepth 100000 in
theorem equal24_cells (b1 o1 n c b2 o2 d : Nat) (xs ys : List UInt8) (w : World) (hx : xs.length = n) (hy : ys.length = n) (hbig : n ≤ 9223372036854775807)
    (hc1 : ∀ i (h : i < xs.length), w.cell? ⟨b1, o1 + i, none⟩ = some (bv (xs[i]'h))) (hc2 : ∀ i (h : i < ys.length), w.cell? ⟨b2, o2 + i, none⟩ = some (bv (ys[i]'h))) :
    Calls Try.prog 24 #[.slice (some ⟨b1, o1, none⟩) n c, .slice (some ⟨b2, o2, none⟩) n d] w fun e w' => e = .returned (.bool (xs == ys)) ∧ ∃ q, w' = w.drewN q := by
  have HC1 := Lib.hid hc1
  have HC2 := Lib.hid hc2
  have HX := Lib.hid hx
  have HY := Lib.hid hy
  clear hc1 hc2 hx hy
  go_enter Try.func24, Try.ntmps24
  go_wp2
  go_loopg [13] n (fun g s13 wr => ∃ k q : Nat, k ≤ n ∧ n - k ≤ g ∧ s13 = .int .i64 k ∧ wr = w.drewN q ∧ Hid (xs.take k = ys.take k))
  case atStart => exact ⟨0, 0, Nat.zero_le _, by omega, rfl, rfl, rfl⟩
  case round =>
    obtain ⟨k, q, hk, hg, rfl, rfl, heq⟩ := hrel
    by_cases hlt : k < n
    · have e1 : k < xs.length := by rw [HX.out]; exact hlt
      have e2 : k < ys.length := by rw [HY.out]; exact hlt
      have g1 := HC1.out k e1
      have g2 := HC2.out k e2
      obtain ⟨x, hxk⟩ : ∃ x, xs[k] = x := ⟨_, rfl⟩
      obtain ⟨y, hyk⟩ : ∃ y, ys[k] = y := ⟨_, rfl⟩
      rw [hxk] at g1
      rw [hyk] at g2
      unfold bv at g1 g2
      have ht1 : xs.take (k + 1) = xs.take k ++ [x] := by rw [List.take_succ_eq_append_getElem e1, hxk]
      have ht2 : ys.take (k + 1) = ys.take k ++ [y] := by rw [List.take_succ_eq_append_getElem e2, hyk]
      have HT1 := Lib.hid ht1
      have HT2 := Lib.hid ht2
      clear hxk hyk ht1 ht2 e1 e2
      by_cases hxy : x = y
      · subst hxy
        go_wp2_with fail
        go_region
        go_wp2
        go_roundg (n - (k + 1))
        case measure => omega
        case rel =>
          refine ⟨k + 1, q + 1, by omega, by omega, by go_num, rfl, ?_⟩
          show xs.take (k + 1) = ys.take (k + 1)
          rw [HT1.out, HT2.out, heq.out]
      · have hne : ¬ ((x.toNat : Int) = (y.toNat : Int)) := by
          intro h
          exact hxy (UInt8.toNat_inj.1 (by omega))
        have hne2 : ((x.toNat : Int) != (y.toNat : Int)) = true := by rw [bne_iff_ne]; exact hne
        have hf : (xs == ys) = false := by
          rw [beq_eq_false_iff_ne]
          intro h
          have := congrArg (List.take (k + 1)) h
          rw [HT1.out, HT2.out, heq.out] at this
          have := List.append_cancel_left this
          injection this with this
          exact hxy this
        have HF := Lib.hid hf
        clear hxy hne hf
        go_wp2_with fail
        go_region
        go_wp2
        go_ret
        exact ⟨(by rw [HF.out]; rfl), q + 1, rfl⟩
    · have : k = n := by omega
      subst this
      have hf : (xs == ys) = true := by
        rw [beq_iff_eq]
        have := heq.out
        rw [List.take_of_length_le (by rw [HX.out]; exact Nat.le_refl _), List.take_of_length_le (by rw [HY.out]; exact Nat.le_refl _)] at this
        exact this
      have HF := Lib.hid hf
      clear hf
      go_wp2
      go_ret
      exact ⟨(by rw [HF.out]; rfl), q, rfl⟩
set_option maxHeartbeats 1000000 in
theorem equal24_empty (a1 a2 : Option Addr) (c d : Nat) (w : World) :
    Calls Try.prog 24 #[.slice a1 0 c, .slice a2 0 d] w fun e w' => e = .returned (.bool true) ∧ ∃ q, w' = w.drewN q := by
  go_enter Try.func24, Try.ntmps24
  go_wp2
  go_loopg [13] 0 (fun _ s13 wr => s13 = .int .i64 0 ∧ wr = w)
  case atStart => exact ⟨rfl, rfl⟩
  case round =>
    obtain ⟨rfl, rfl⟩ := hrel
    go_wp2
    go_ret
    exact ⟨rfl, 0, rfl⟩
set_option maxHeartbeats 1000000 in
theorem equal24_len (a1 a2 : Option Addr) (n m c d : Nat) (w : World) (h : n ≠ m) :
    Calls Try.prog 24 #[.slice a1 n c, .slice a2 m d] w fun e w' => e = .returned (.bool false) ∧ ∃ q, w' = w.drewN q := by
  have hnm' : ¬ (n : Int) = (m : Int) := by omega
  go_enter Try.func24, Try.ntmps24
  go_wp2
  go_ret
  exact ⟨rfl, 0, rfl⟩
theorem equal24 (v1 v2 : Value) (xs ys : List UInt8) (w : World) (h1 : Rd w v1 xs) (h2 : Rd w v2 ys) (hbig : xs.length ≤ 9223372036854775807) :
    Calls Try.prog 24 #[v1, v2] w fun e w' => e = .returned (.bool (xs == ys)) ∧ ∃ q, w' = w.drewN q := by
  obtain ⟨a1, c1, rfl, _, _, k1⟩ := h1
  obtain ⟨a2, c2, rfl, _, _, k2⟩ := h2
  by_cases hl : xs.length = ys.length
  · by_cases hn : xs = []
    · subst hn
      have : ys = [] := List.eq_nil_of_length_eq_zero (by rw [← hl]; rfl)
      subst this
      exact equal24_empty a1 a2 c1 c2 w
    · have hm : ys ≠ [] := by
        intro e
        rw [e] at hl
        exact hn (List.eq_nil_of_length_eq_zero hl)
      obtain ⟨b1, o1, rfl, _, q1⟩ := k1 hn
      obtain ⟨b2, o2, rfl, _, q2⟩ := k2 hm
      rw [← hl]
      exact equal24_cells b1 o1 _ c1 b2 o2 c2 xs ys w rfl hl.symm hbig q1 q2
  · have : (xs == ys) = false := by
      rw [beq_eq_false_iff_ne]
      intro e
      exact hl (by rw [e])
    rw [this]
    exact equal24_len a1 a2 _ _ c1 c2 w hl

end Go.Proofs.Ytefiliomfiomfaa
