/- HeapStays over what came in. -/
import Derived.Test.YtefiliomfiomfacStays
namespace Go.Proofs.Ytefiliomfiomfac
open Go.RowKit Go.Maps

theorem stays_row (a0 : Option Addr) (n0 c0 : Nat) (l0 : List Int) (a1 a2 : Int) (a3 : Option Addr) (n3 c3 : Nat) (l3 : List ActV) (w : World)
    (e0 : l0.length = n0) (k0 : RI w (.slice a0 n0 c0) l0 ∧ ∀ x ∈ l0, (Lit.int .i64 x).wf = true) (_ : n0 ≤ maxLen) (_ : (Lit.int .i64 a1).wf = true) (_ : (Lit.int .i64 a2).wf = true)
    (e3 : l3.length = n3) (k3 : RA w (.slice a3 n3 c3) l3) (_ : n3 ≤ maxLen) :
    Calls Try.prog 4 #[.slice a0 n0 c0, .int .i64 a1, .int .i64 a2, .slice a3 n3 c3] w fun e w' => e = .returned (.bool true) ∧ Below w.heap.size w w' := by
  subst e0 e3
  obtain ⟨⟨x0, y0, g0, _, _, r0⟩, _⟩ := k0
  obtain ⟨x3, y3, g3, _, r3⟩ := k3
  injection g0 with g0 _ _
  injection g3 with g3 _ _
  subst g0 g3
  have q0 : ∃ b0 o0, (0 < l0.length → a0 = some ⟨b0, o0, none⟩ ∧ b0 < w.heap.size) ∧ (∀ k (h : k < l0.length), w.cell? ⟨b0, o0 + k, none⟩ = some (.int .i64 l0[k])) := by
    by_cases h : l0 = []
    · exact ⟨0, 0, fun h' => by rw [h] at h'; simp at h', fun k hk => by rw [h] at hk; simp at hk⟩
    · obtain ⟨b, o, e, hb, hc⟩ := r0 h
      exact ⟨b, o, fun _ => ⟨e, hb⟩, hc⟩
  have q3 : ∃ b3 o3, (0 < l3.length → a3 = some ⟨b3, o3, none⟩ ∧ b3 < w.heap.size) ∧ (∀ k (h : k < l3.length), ActAt w b3 (o3 + 7 * k) l3[k]) := by
    by_cases h : l3 = []
    · exact ⟨0, 0, fun h' => by rw [h] at h'; simp at h', fun k hk => by rw [h] at hk; simp at hk⟩
    · obtain ⟨b, o, e, hb, hc⟩ := r3 h
      exact ⟨b, o, fun _ => ⟨e, hb⟩, hc⟩
  obtain ⟨b0, o0, h0, hc0⟩ := q0
  obtain ⟨b3, o3, h3, hc3⟩ := q3
  exact stays_core a0 c0 l0 a1 a2 a3 c3 l3 w b0 o0 b3 o3 h0 (Lib.hid hc0) h3 (Lib.hid hc3)
end Go.Proofs.Ytefiliomfiomfac
