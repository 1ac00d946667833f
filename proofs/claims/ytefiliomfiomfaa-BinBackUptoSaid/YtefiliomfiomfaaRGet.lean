/- The reference's Get; bytes as a text. -/
import Derived.Test.YtefiliomfiomfaaGet
import Derived.Lib.BufferRead
import Derived.Deep.RegionWith
namespace Go.Proofs.Ytefiliomfiomfaa
open Go.RowKit

/-- Bytes as a text. -/
def sB (l : List UInt8) : ByteArray := ⟨l.toArray⟩
theorem sB_list (l : List UInt8) : (sB l).toList = l := by rw [Lib.toList_data]; rfl
theorem sB_eq (a b : List UInt8) : ((sB a).toList == (sB b).toList) = (a == b) := by rw [sB_list, sB_list]
theorem sB_ne (a b : List UInt8) : ((sB a).toList != (sB b).toList) = !(a == b) := by rw [sB_list, sB_list]; rfl
theorem sB_data (s : ByteArray) : sB s.data.toList = s := rfl
theorem Rd.text {w : World} {v : Value} {l : List UInt8} (h : Rd w v l) : (convert 24 9 v).run Try.prog w = .ok (.string (sB l)) w := by
  obtain ⟨a, c, rfl, hc, hn, hcells⟩ := id h
  cases a with
  | none =>
    have h0 := hn rfl
    have : l = [] := List.eq_nil_of_length_eq_zero (by omega)
    subst this
    subst h0
    have := Lib.run_convert_nil_bytes (P := Try.prog) w 24 9 5 0 Try.underlying24 Try.underlying5 Try.underlying9
    exact this
  | some b =>
    refine run_convert_bytes_back w 24 9 5 b c l Try.underlying24 Try.underlying5 Try.underlying9 ?_
    intro j hj
    refine (Rd.cells h).2.2 b rfl j _ ?_
    rw [List.getElem?_map, List.getElem?_eq_getElem hj]
    rfl
theorem Rd.cut {w : World} {a : Option Addr} {c : Nat} {l : List UInt8} (lo hi : Nat) (h1 : lo < hi) (h2 : hi ≤ l.length) (h : Rd w (.slice a l.length c) l) :
    ∃ a', (∀ W, (Instr.slice 24 (.slice a l.length c) (some (.int .i64 (lo : Int))) (some (.int .i64 (hi : Int))) none).run Try.prog W = .ok (.slice a' (hi - lo) (c - lo)) W) ∧ Rd w (.slice a' (hi - lo) (c - lo)) ((l.drop lo).take (hi - lo)) := by
  obtain ⟨a1, c1, e, hc, hn, hcells⟩ := h
  injection e with e1 e2 e3
  subst e1 e3
  have hr : ∀ W, (Instr.slice 24 (.slice a l.length c) (some (.int .i64 (lo : Int))) (some (.int .i64 (hi : Int))) none).run Try.prog W = .ok (sliced a lo hi c 1) W := by
    intro W
    rw [run_slice_lh W 24 a l.length c (by simp [Program.elem, Try.underlying24]) .i64 .i64 (lo : Int) (hi : Int) (by omega) (by omega) (by omega)]
    simp [go_sem, Program.elem, Try.underlying24]
  have hlen : ((l.drop lo).take (hi - lo)).length = hi - lo := by rw [List.length_take, List.length_drop]; omega
  refine ⟨_, hr, ?_⟩
  refine ⟨_, c - lo, by rw [hlen], by rw [hlen]; omega, ?_, ?_⟩
  · intro e
    cases a with
    | none => have := hn rfl; omega
    | some b => split at e <;> simp at e
  · intro _
    have hl0 : l ≠ [] := by intro e; subst e; simp at h2; omega
    obtain ⟨b, o, e, hb, hcs⟩ := hcells hl0
    subst e
    refine ⟨b, o + lo, ?_, hb, ?_⟩
    · have : ¬ c = lo := by omega
      simp [this, Addr.add]
    · intro i hi'
      rw [hlen] at hi'
      rw [Nat.add_assoc, hcs (lo + i) (by omega), List.getElem_take, List.getElem_drop]

theorem get25_low (v : Value) (p : Int) (w : World) (h : p < 0) : Calls Try.prog 25 #[v, .int .i64 p] w fun e w' => e = .returned (tup (0, 0, 3)) ∧ Below w.heap.size w w' := by
  go_enter Try.func25, Try.ntmps25
  go_wp2
  go_ret3
  exact ⟨rfl, Below.refl _ _⟩
theorem get25_high (a : Option Addr) (n c : Nat) (p : Int) (w : World) (h0 : 0 ≤ p) (h : (n : Int) < p) : Calls Try.prog 25 #[.slice a n c, .int .i64 p] w fun e w' => e = .returned (tup (0, 0, 3)) ∧ Below w.heap.size w w' := by
  go_enter Try.func25, Try.ntmps25
  go_wp2
  go_ret3
  exact ⟨rfl, Below.refl _ _⟩

set_option maxRecDepth 100000 in
set_option maxHeartbeats 2000000 in
theorem get25_none (a : Option Addr) (n c : Nat) (w : World) :
    Calls Try.prog 25 #[.slice a n c, .int .i64 (n : Int)] w fun e w' => e = .returned (tup (0, 0, 4)) ∧ Below w.heap.size w w' := by
  go_enter Try.func25, Try.ntmps25
  go_wp2
  refine wp_loop_rounds 1 ?_
  rw [rounds_succ]
  go_wp2
  go_ret3
  exact ⟨rfl, Below.refl _ _⟩

set_option maxRecDepth 100000 in
set_option maxHeartbeats 2000000 in
theorem get25_long (B o c p : Nat) (b : List UInt8) (w : World) (hcs : ∀ i (h : i < b.length), w.cell? ⟨B, o + i, none⟩ = some (bv (b[i]'h))) (hp : p < b.length) (hbig : b.length ≤ 140737488355328)
    (M : Nat) (hM10 : M ≤ 10) (hMl : p + M ≤ b.length) (hM : M = 10 ∨ p + M = b.length) (hall : ∀ q (h : q < b.length), p ≤ q → q < p + M → 128 ≤ (b[q]'h).toNat) (R : Int × Int × Int) (hR : R = if M = 10 then (0, 0, 5) else (0, 0, 4)) :
    Calls Try.prog 25 #[.slice (some ⟨B, o, none⟩) b.length c, .int .i64 (p : Int)] w fun e w' => e = .returned (tup R) ∧ Below w.heap.size w w' := by
  have HCELL := Lib.hid hcs
  have HALL := Lib.hid hall
  have HRR := Lib.hid hR
  clear hcs hall hR
  go_enter Try.func25, Try.ntmps25
  go_wp2
  go_loop [7] (fun i => ∃ (q : Nat), p ≤ q ∧ q ≤ p + M ∧ i = .int .i64 (q : Int)) (fun i => b.length - (intOf i).toNat)
  case atStart => exact ⟨p, by omega, by omega, rfl⟩
  case round =>
    obtain ⟨q, hq, hq2, rfl⟩ := hrel
    by_cases hlt : q < p + M
    · have hql : q < b.length := by omega
      have hcell := HCELL.out q hql
      have hy := HALL.out q hql hq hlt
      generalize b[q] = y at hcell hy
      unfold bv at hcell
      have hy' : (128 : Int) ≤ (y.toNat : Int) := by omega
      have h10 : (q : Int) - (p : Int) < 10 := by omega
      clear hy
      go_wp2
      go_round
      case rel => exact ⟨q + 1, by omega, by omega, by go_num⟩
      case measure => simp [intOf]; omega
    · have hqe : q = p + M := by omega
      by_cases h10 : M = 10
      · have HR2 : Hid (R = (0, 0, 5)) := by rw [HRR.out, if_pos h10]; rfl
        have hge : ¬ (q : Int) - (p : Int) < 10 := by omega
        have hge2 : (10 : Int) ≤ (q : Int) - (p : Int) := by omega
        clear hqe h10 hM
        by_cases hql : q < b.length
        · have hcell := HCELL.out q hql
          generalize b[q] = y at hcell
          unfold bv at hcell
          by_cases hy' : (128 : Int) ≤ (y.toNat : Int)
          · go_wp2
            go_ret3
            exact ⟨(by rw [HR2.out]; rfl), Below.refl _ _⟩
          · go_wp2
            go_ret3
            exact ⟨(by rw [HR2.out]; rfl), Below.refl _ _⟩
        · go_wp2
          go_ret3
          exact ⟨(by rw [HR2.out]; rfl), Below.refl _ _⟩
      · have HR2 : Hid (R = (0, 0, 4)) := by rw [HRR.out, if_neg h10]; rfl
        have hge : (q : Int) - (p : Int) < 10 := by omega
        have hql : ¬ q < b.length := by omega
        clear hqe h10 hM
        go_wp2
        go_ret3
        exact ⟨(by rw [HR2.out]; rfl), Below.refl _ _⟩
end Go.Proofs.Ytefiliomfiomfaa
