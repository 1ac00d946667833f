/- hier's loops. -/
import Derived.Test.YtefiliomfiomfadDoorAdd
namespace Go.Proofs.YtefiliomfiomfadDoor
open Go.RowKit Go.Maps

def sizes (H : List (BA × BA)) : Prop := ∀ p ∈ H, p.1.size ≤ maxLen ∧ p.2.size ≤ maxLen
theorem look_mem {H : List (BA × BA)} {c s : BA} (h : look H c = some s) : (c, s) ∈ H := by
  unfold look at h
  cases hf : H.find? (fun p => decide (p.1 = c)) with
  | none => rw [hf] at h; simp at h
  | some p =>
    rw [hf] at h
    simp at h
    have h1 := List.find?_some hf
    have h2 := List.mem_of_find?_eq_some hf
    simp at h1
    rw [← h1, ← h]
    exact h2
theorem look_size {H : List (BA × BA)} (h : sizes H) (c : BA) : ((look H c).getD ⟨#[]⟩).size ≤ maxLen := by
  cases hl : look H c with
  | none => unfold maxLen; simp [ByteArray.size]
  | some s => exact (h _ (look_mem hl)).2
def loopsN (H : List (BA × BA)) (name : BA) : Nat → BA → Bool
  | 0, _ => false
  | k + 1, s => if s = name then true else if s = obj then false else loopsN H name k ((look H s).getD ⟨#[]⟩)
theorem loopsN_succ (H : List (BA × BA)) (name : BA) (k : Nat) (s : BA) : loopsN H name (k + 1) s = if s = name then true else if s = obj then false else loopsN H name k ((look H s).getD ⟨#[]⟩) := rfl
theorem loopsN_zero (H : List (BA × BA)) (name s : BA) : loopsN H name 0 s = false := rfl
def loopsF (H : List (BA × BA)) (p : BA × BA) : Bool := loopsN H p.1 H.length p.2

set_option maxRecDepth 100000 in
set_option maxHeartbeats 1000000 in
theorem loops26 {w : World} {F : Nat → Prop} {p : Value} {H : List (BA × BA)} {N : Nat} (h : HP w F p H N) (hH : sizes H) (c s : BA) (x2 x3 x4 : Value) (hs : s.size ≤ maxLen) (hl : H.length ≤ 1048576) :
    Calls Tryd.prog 26 #[p, .agg #[.string c, .string s, x2, x3, x4]] w fun e w' => e = .returned (.bool (loopsF H (c, s))) ∧ Below w.heap.size w w' := by
  unfold loopsF
  obtain ⟨_, hb, mb, v, n, rfl, hi, _⟩ := h
  have c0 := hi.c0
  have c1 := hi.c1
  obtain ⟨a, cc, hv⟩ := hi.names.shape
  rw [List.length_map] at hv
  subst hv
  have HA := Lib.hid (fun (t : BA) (ht : t.size ≤ maxLen) => (hi.above.chg (Chg.alloc (fun _ => False) w (.cells #[.string c, .string s, x2, x3, x4] 48)) (fun e => e)).look t ht)
  have HH := Lib.hid hH
  have HS := Lib.hid hs
  clear hi hH hs
  generalize hLen : H.length = L at *
  have HE : Hid (loopsN H (c, s).1 L (c, s).2 = loopsN H c L s) := Lib.hid rfl
  rw [HE.out]
  clear HE hLen
  go_enter Tryd.func26, Tryd.ntmps26
  go_wp2
  go_loop [5, 13] (fun t i => ∃ (k : Nat) (u : BA), k ≤ L ∧ i = .int .i64 k ∧ t = .string u ∧ Hid (u.size ≤ maxLen) ∧ Hid (loopsN H c L s = loopsN H c (L - k) u)) (fun _ i => L - (intOf i).toNat)
  case atStart => exact ⟨0, s, Nat.zero_le _, rfl, rfl, HS, Lib.hid rfl⟩
  case round =>
    obtain ⟨k, u, hk, rfl, rfl, hu, hlo⟩ := hrel
    by_cases hkL : k < L
    · have e1 : L - k = (L - (k + 1)) + 1 := by omega
      have hlo2 := hlo.out
      rw [e1, loopsN_succ] at hlo2
      by_cases h1 : u = c
      · rw [if_pos h1] at hlo2
        have b1 : (u.toList == c.toList) = true := by rw [beqS]; simpa using h1
        have HX := Lib.hid hlo2
        clear hlo2 hlo e1 h1
        go_wp2
        go_ret
        rw [HX.out]
        exact ⟨rfl, (Below.refl _ w).alloc (Nat.le_refl _) _⟩
      · rw [if_neg h1] at hlo2
        have b1 : (u.toList == c.toList) = false := by rw [beqS]; simpa using h1
        by_cases h2 : u = obj
        · rw [if_pos h2] at hlo2
          have b2 : (u.toList == [79, 98, 106, 101, 99, 116]) = true := by rw [isObj]; simpa using h2
          have HX := Lib.hid hlo2
          clear hlo2 hlo e1 h1 h2
          go_wp2
          go_ret
          rw [HX.out]
          exact ⟨rfl, (Below.refl _ w).alloc (Nat.le_refl _) _⟩
        · rw [if_neg h2] at hlo2
          have b2 : (u.toList == [79, 98, 106, 101, 99, 116]) = false := by rw [isObj]; simpa using h2
          have HX := Lib.hid hlo2
          have hlk := HA.out u hu.out
          have HU := Lib.hid (look_size HH.out u)
          clear hlo2 hlo e1 h1 h2
          generalize (look H u).getD ⟨#[]⟩ = u2 at *
          go_wp2
          go_round
          case rel => exact ⟨k + 1, u2, by omega, by go_num, rfl, HU, HX⟩
          case measure => simp [intOf]; omega
    · have e1 : L - k = 0 := by omega
      have hlo2 := hlo.out
      rw [e1, loopsN_zero] at hlo2
      have HX := Lib.hid hlo2
      clear hlo2 hlo e1
      go_wp2
      go_ret
      rw [HX.out]
      exact ⟨rfl, (Below.refl _ w).alloc (Nat.le_refl _) _⟩
end Go.Proofs.YtefiliomfiomfadDoor
