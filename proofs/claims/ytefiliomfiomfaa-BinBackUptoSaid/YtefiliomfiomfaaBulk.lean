/- What the bound of the second form says of what came in. -/
import Derived.Test.YtefiliomfiomfaaShort
namespace Go.Proofs.Ytefiliomfiomfaa
open Go.RowKit Go.ChangeShapes Go.WideShapes Go.ChangeAt

theorem one_le {H : Type} (d : DataW H) : 1 ≤ Rows.uptoBulk d := by
  cases d with
  | lit l => cases l <;> simp [Rows.uptoBulk]
  | nil => simp [Rows.uptoBulk]
  | ptr d => simp [Rows.uptoBulk]
  | slice elems spare => simp [Rows.uptoBulk]
  | agg parts => simp [Rows.uptoBulk]
  | iface t d => simp [Rows.uptoBulk]
  | map entries => simp [Rows.uptoBulk]
  | held h => simp [Rows.uptoBulk]
theorem length_le {H : Type} (l : List (DataW H)) : l.length ≤ Rows.uptoBulkAll l := by
  induction l with
  | nil => simp [Rows.uptoBulkAll]
  | cons x r ih => have := one_le x; simp only [Rows.uptoBulkAll, List.length_cons]; omega
/-- A slice of bytes that came in. -/
theorem arg_bytes_open {H : Type} {en : TypeId × Value → H} {W : World} {base : Nat} {spare : Nat → Bool} {held : Bool} {a : Option Addr} {len cap : Nat} {d : DataW H} {ps : List MemPlace}
    (h : DataW.Trod en Try.prog W base spare held 24 (.slice a len cap) d ps) : ∃ l : List UInt8, l.length = len ∧ Rd W (.slice a len cap) l := by
  obtain ⟨fuel, hf⟩ := h
  rcases open_ints Try.underlying24 Try.underlying5 (by kernel_rfl) hf with ⟨hcs, _⟩ | ⟨x, l, c, zs, hcs, _, hl, _, hz, _, hcell, hwf⟩
  · simp [Value.cells] at hcs
    obtain ⟨rfl, rfl, rfl⟩ := hcs
    exact ⟨[], rfl, ⟨none, 0, rfl, by simp, fun _ => rfl, fun h => absurd rfl h⟩⟩
  · simp [Value.cells] at hcs
    obtain ⟨rfl, rfl, rfl⟩ := hcs
    have hl2 : len ≤ zs.length := by
      rw [hz]
      split
      · exact hl
      · exact Nat.le_refl _
    have hlen : ((zs.take len).map fun z => UInt8.ofNat z.toNat).length = len := by simp; omega
    refine ⟨(zs.take len).map fun z => UInt8.ofNat z.toNat, hlen, ?_⟩
    refine ⟨_, cap, by rw [hlen], by rw [hlen]; exact hl, (fun h => by cases h), fun hne => ?_⟩
    have hpos : 0 < len := by
      rcases Nat.eq_zero_or_pos len with h | h
      · subst h; simp at hne
      · exact h
    obtain ⟨xb, xo, xs⟩ := x
    have hc0 := hcell 0 (by omega)
    have hs : xs = none := by
      cases xs with
      | none => rfl
      | some y =>
        exfalso
        unfold World.cell? at hc0
        simp [Addr.add] at hc0
        split at hc0 <;> simp_all
    subst hs
    have hb := World.block_lt_of_cell? W _ hc0
    refine ⟨xb, xo, rfl, ?_, ?_⟩
    · have e : ((⟨xb, xo, none⟩ : Addr).add 0).block = xb := by unfold Addr.add; split <;> rfl
      rw [e] at hb
      exact hb
    · intro i hi
      rw [hlen] at hi
      have e : (⟨xb, xo, none⟩ : Addr).add i = ⟨xb, xo + i, none⟩ := by unfold Addr.add; split <;> simp_all
      have hc := hcell i (by omega)
      rw [e] at hc
      rw [hc]
      have hw := hwf (zs.getD i 0) (by
        rw [List.getD_eq_getElem?_getD, List.getElem?_eq_getElem (by omega)]
        exact List.getElem_mem _)
      have hr : 0 ≤ zs.getD i 0 ∧ zs.getD i 0 ≤ 255 := by
        simp [Lit.wf, IntKind.min, IntKind.max, IntKind.signed, IntKind.bits] at hw
        simpa using hw
      have hg : zs.getD i 0 = zs[i]'(by omega) := by rw [List.getD_eq_getElem?_getD, List.getElem?_eq_getElem (by omega)]; rfl
      rw [hg] at hr ⊢
      unfold bv
      rw [List.getElem_map, List.getElem_take, UInt8.toNat_ofNat']
      congr 2
      omega
/-- A slice of bytes that came in: so many at the most. -/
theorem arg_bytesU {H : Type} {en : TypeId × Value → H} {W : World} {base : Nat} {spare : Nat → Bool} {held : Bool} {a : Option Addr} {len cap : Nat} {d : DataW H} {ps : List MemPlace}
    (h : DataW.Trod en Try.prog W base spare held 24 (.slice a len cap) d ps) : ∃ l : List UInt8, l.length = len ∧ Rd W (.slice a len cap) l ∧ len ≤ Rows.uptoBulk d := by
  have hb : len ≤ Rows.uptoBulk d := by
    obtain ⟨fuel, hf⟩ := h
    rcases open_ints Try.underlying24 Try.underlying5 (by kernel_rfl) hf with ⟨hcs, hx⟩ | ⟨x, l, c, zs, hcs, _, hl, _, hz, hx, _, _⟩
    · simp [Value.cells] at hcs
      obtain ⟨rfl, rfl, rfl⟩ := hcs
      omega
    · simp [Value.cells] at hcs
      obtain ⟨rfl, rfl, rfl⟩ := hcs
      obtain ⟨hx, _⟩ := Prod.mk.inj hx
      subst hx
      have h1 := length_le (lits (H := H) .u8 (zs.take len))
      have hl2 : len ≤ zs.length := by
        rw [hz]
        split
        · exact hl
        · exact Nat.le_refl _
      have h2 : (lits (H := H) .u8 (zs.take len)).length = len := by simp [lits]; omega
      rw [h2] at h1
      simp only [Rows.uptoBulk]
      omega
  obtain ⟨l, h1, h2⟩ := arg_bytes_open h
  exact ⟨l, h1, h2, hb⟩
end Go.Proofs.Ytefiliomfiomfaa
