/- arith.Text: a number in digits. -/
import Derived.Test.YtefiliomfiomfabRows
import Derived.WalkKit
import Derived.WalkSpells
import Derived.WalkLawsBesides
import Derived.Handy
import Derived.Lib.Hide
namespace Go.Proofs.Ytefiliomfiomfab
open Go.RowKit

def dec (n : Nat) : List UInt8 := if h : n < 10 then [48 + UInt8.ofNat n] else dec (n / 10) ++ [48 + UInt8.ofNat (n % 10)]
  termination_by n
def txt (n : Int) : List UInt8 := if n < 0 then 45 :: dec n.natAbs else dec n.natAbs
def Inv12 (s u0 : Nat) (w : World) (vu va vm : Value) (wr : World) : Prop :=
  ∃ (u i : Nat) (more : Bool) (L : List UInt8) (C : Array Value), vu = .int .u64 u ∧ va = .int .i64 i ∧ vm = .bool more ∧ wr = w.alloc (.cells C 35) ∧ C.size = 20 ∧
    C.toList.drop i = L.map (fun c => Value.int .u8 c.toNat) ∧ (more = true → dec u ++ L = dec u0) ∧ (more = false → L = dec u0) ∧ u < 10 ^ (i - s) ∧ i ≤ 20 ∧ s + (if more then 1 else 0) ≤ i ∧ u < 18446744073709551616

theorem dec_small {n : Nat} (h : n < 10) : dec n = [48 + UInt8.ofNat n] := by rw [dec, dif_pos h]
theorem dec_big {n : Nat} (h : ¬ n < 10) : dec n = dec (n / 10) ++ [48 + UInt8.ofNat (n % 10)] := by rw [dec, dif_neg h]
theorem byte_dig (u : Nat) : ((48 + UInt8.ofNat (u % 10)).toNat : Int) = 48 + (u : Int) % 10 := by
  simp [UInt8.toNat_add, UInt8.toNat_ofNat]; omega
theorem drop_set {C : Array Value} {j : Nat} (v : Value) (hj : j < C.size) : (C.setIfInBounds j v).toList.drop j = v :: C.toList.drop (j + 1) := by
  have hj' : j < C.toList.length := by simpa using hj
  rw [Array.toList_setIfInBounds, List.drop_set]
  simp only [Nat.lt_irrefl, if_false, Nat.sub_self]
  rw [List.drop_eq_getElem_cons hj']
  rfl
theorem step12 {w : World} {s u0 u j : Nat} {L : List UInt8} {C : Array Value} (hC : C.size = 20)
    (hd : C.toList.drop (j + 1) = L.map (fun c => Value.int .u8 c.toNat)) (ht : dec u ++ L = dec u0) (hu : u < 10 ^ (j + 1 - s)) (hj : s + 1 ≤ j + 1) (hj2 : j + 1 ≤ 20) (hu2 : u < 18446744073709551616) :
    Inv12 s u0 w (.int .u64 ((u : Int) / 10)) (.int .i64 ↑j) (.bool (decide (0 < (u : Int) / 10))) (w.alloc (.cells (C.setIfInBounds j (.int .u8 (48 + (u : Int) % 10))) 35)) := by
  have hp : u / 10 < 10 ^ (j - s) := by
    have : j + 1 - s = (j - s) + 1 := by omega
    rw [this, Nat.pow_succ] at hu
    omega
  refine ⟨u / 10, j, decide (0 < u / 10), (48 + UInt8.ofNat (u % 10)) :: L, _, by simp, rfl, ?_, rfl, by simpa using hC, ?_, ?_, ?_, hp, by omega, ?_, by omega⟩
  · congr 1
    rw [decide_eq_decide]
    omega
  · rw [drop_set _ (by omega), hd, List.map_cons, byte_dig]
  · intro h
    have h' : 0 < u / 10 := of_decide_eq_true h
    rw [← ht, dec_big (n := u) (by omega)]
    simp
  · intro h
    have h' : ¬ 0 < u / 10 := of_decide_eq_false h
    rw [← ht, dec_small (n := u) (by omega), Nat.mod_eq_of_lt (by omega : u < 10)]
    rfl
  · by_cases h : 0 < u / 10
    · have : j - s ≠ 0 := by
        intro h0
        rw [h0] at hp
        omega
      simp [h]; omega
    · simp [h]; omega

theorem conv12 (w : World) (j cap : Nat) (l : List UInt8) (C : Array Value) (hC : C.size = 20) (hj : j ≤ 20) (hd : C.toList.drop j = l.map (fun c => Value.int .u8 c.toNat)) :
    (convert 36 9 (.slice (some ⟨w.heap.size, j, none⟩) (20 - j) cap)).run Try.prog (w.alloc (.cells C 35)) = .ok (.string ⟨l.toArray⟩) (w.alloc (.cells C 35)) := by
  have hl : l.length = 20 - j := by
    have := congrArg List.length hd
    simp only [List.length_drop, Array.length_toList, List.length_map] at this
    omega
  rw [← hl]
  refine run_convert_bytes_back _ 36 9 5 _ cap l Try.underlying36 Try.underlying5 Try.underlying9 ?_
  intro t ht
  have e : (⟨w.heap.size, j, none⟩ : Addr).add t = ⟨w.heap.size, j + t, none⟩ := by unfold Addr.add; split <;> simp_all
  rw [e, World.cell?_alloc_mark]
  have : C.toList[j + t]? = (C.toList.drop j)[t]? := by rw [List.getElem?_drop]
  rw [← Array.getElem?_toList, this, hd, List.getElem?_map, List.getElem?_eq_getElem ht]
  rfl

theorem sl12 (b j : Nat) (hj : j < 20) (W : World) : (Instr.sliceAt 35 (.pointer (some ⟨b, 0, none⟩)) (some (.int .i64 (j : Int))) none none).run Try.prog W = .ok (.slice (some ⟨b, j, none⟩) (20 - j) (20 - j)) W := by
  have hal : Try.prog.arrayLen 35 = 20 := by simp [Program.arrayLen, Try.underlying35]
  rw [run_sliceAt_array_l W 35 ⟨b, 0, none⟩ (by simp [Program.arrayLen, Program.elem, Try.underlying35]) .i64 (j : Int) (by omega) (by rw [hal]; omega)]
  simp [go_sem, Program.elem, Try.underlying35]
  omega

theorem dec_ne (n : Nat) : dec n ≠ [] := by
  by_cases h : n < 10
  · rw [dec_small h]; simp
  · rw [dec_big h]; simp

set_option maxHeartbeats 1000000 in
theorem text12_neg (n : Int) (w : World) (h0 : n < 0) (hlo : -9223372036854775808 ≤ n) : Calls Try.prog 12 #[.int .i64 n] w fun e w' =>
    e = .returned (.string ⟨(txt n).toArray⟩) ∧ ∃ o, w' = w.alloc o := by
  have hn : decide (n < 0) = true := by simpa using h0
  obtain ⟨u0, hu0⟩ : ∃ u0 : Nat, u0 = n.natAbs := ⟨_, rfl⟩
  have hw : IntKind.u64.wrap (-IntKind.u64.wrap n) = (u0 : Int) := by rw [IntKind.wrap_u64, IntKind.wrap_u64]; omega
  have hr : txt n = 45 :: dec u0 := by unfold txt; rw [if_pos h0, hu0]
  have HR := Lib.hid hr
  have hb : u0 < 10 ^ 19 := by omega
  clear hr
  have HU := Lib.hid hu0
  clear hu0
  go_enter Try.func12, Try.ntmps12
  go_wp2
  go_loopw [3, 5, 6] (Inv12 1 u0 w) (fun _ i _ _ => (intOf i).toNat)
  case atStart =>
    exact ⟨u0, 20, true, [], _, rfl, rfl, rfl, rfl, rfl, rfl, fun _ => by simp, fun h => by simp at h, hb, by omega, by simp, by omega⟩
  case round =>
    obtain ⟨u, i, more, L, C, rfl, rfl, rfl, rfl, hC, hd, ht, hf, hu, hi, hs, hu2⟩ := hrel
    cases more with
    | true =>
      obtain ⟨j, rfl⟩ : ∃ j, i = j + 1 := ⟨i - 1, by simp at hs; omega⟩
      have hS := step12 (w := w) hC hd (ht rfl) hu (by simpa using hs) hi hu2
      have HS := Lib.hid hS
      clear hd ht hf hS HU HR
      have hj : j < C.size := by omega
      have HC := Lib.hid hC
      clear hC
      go_wp2
      go_roundw
      case rel =>
        exact HS.out
      case measure => simp [intOf]
    | false =>
      obtain ⟨j, rfl⟩ : ∃ j, i = j + 1 := ⟨i - 1, by simp at hs; omega⟩
      have hL := hf rfl
      have hj : j < C.size := by omega
      have hk := fun cap => conv12 w j cap (45 :: L) (C.setIfInBounds j (.int .u8 45)) (by simpa using hC) (by omega) (by rw [drop_set _ hj, hd]; rfl)
      have HL : Hid (txt n = 45 :: L) := by rw [hL]; exact HR
      have HC := Lib.hid hC
      have hsl := sl12 w.heap.size j (by omega)
      clear ht hf hu hu2 HR hL hd hC HU
      go_wp2
      go_ret
      exact ⟨(by rw [HL.out]; rfl), _, rfl⟩
set_option maxHeartbeats 1000000 in
theorem text12_pos (n : Int) (w : World) (h0 : ¬ n < 0) (hhi : n ≤ 9223372036854775807) : Calls Try.prog 12 #[.int .i64 n] w fun e w' =>
    e = .returned (.string ⟨(txt n).toArray⟩) ∧ ∃ o, w' = w.alloc o := by
  have hn : decide (n < 0) = false := by simpa using h0
  obtain ⟨u0, hu0⟩ : ∃ u0 : Nat, u0 = n.natAbs := ⟨_, rfl⟩
  have hu64 : u0 < 18446744073709551616 := by omega
  have hw : IntKind.u64.wrap n = (u0 : Int) := by rw [IntKind.wrap_u64]; omega
  have hr : txt n = dec u0 := by unfold txt; rw [if_neg h0, hu0]
  have HR := Lib.hid hr
  have hb : u0 < 10 ^ 20 := by have : u0 ≤ 9223372036854775807 := by omega
                               omega
  clear hr
  have HU := Lib.hid hu0
  clear hu0
  go_enter Try.func12, Try.ntmps12
  go_wp2
  go_loopw [3, 5, 6] (Inv12 0 u0 w) (fun _ i _ _ => (intOf i).toNat)
  case atStart =>
    exact ⟨u0, 20, true, [], _, rfl, rfl, rfl, rfl, rfl, rfl, fun _ => by simp, fun h => by simp at h, hb, by omega, by simp, by have := HU.out; omega⟩
  case round =>
    obtain ⟨u, i, more, L, C, rfl, rfl, rfl, rfl, hC, hd, ht, hf, hu, hi, hs, hu2⟩ := hrel
    cases more with
    | true =>
      obtain ⟨j, rfl⟩ : ∃ j, i = j + 1 := ⟨i - 1, by simp at hs; omega⟩
      have hS := step12 (w := w) hC hd (ht rfl) hu (by simp) hi hu2
      have HS := Lib.hid hS
      clear hd ht hf hS HU HR
      have hj : j < C.size := by omega
      have HC := Lib.hid hC
      clear hC
      go_wp2
      go_roundw
      case rel =>
        exact HS.out
      case measure => simp [intOf]
    | false =>
      have hL := hf rfl
      have hlt : i < 20 := by
        rcases Nat.lt_or_ge i 20 with h | h
        · exact h
        · rw [List.drop_eq_nil_of_le (by simp [hC, h])] at hd
          have : L ≠ [] := by rw [hL]; exact dec_ne u0
          exact absurd (List.map_eq_nil_iff.1 hd.symm) this
      have hk := fun cap => conv12 w i cap L C hC (by omega) hd
      have HL : Hid (txt n = L) := by rw [hL]; exact HR
      have HC := Lib.hid hC
      have hsl := sl12 w.heap.size i hlt
      clear ht hf hu hu2 HR hL hd hC HU
      go_wp2
      go_ret
      exact ⟨(by rw [HL.out]; rfl), _, rfl⟩
/-- arith.Text: a number in digits. -/
theorem text12 (n : Int) (w : World) (hlo : -9223372036854775808 ≤ n) (hhi : n ≤ 9223372036854775807) : Calls Try.prog 12 #[.int .i64 n] w fun e w' =>
    e = .returned (.string ⟨(txt n).toArray⟩) ∧ ∃ o, w' = w.alloc o := by
  by_cases h : n < 0
  · exact text12_neg n w h hlo
  · exact text12_pos n w h hhi
end Go.Proofs.Ytefiliomfiomfab
