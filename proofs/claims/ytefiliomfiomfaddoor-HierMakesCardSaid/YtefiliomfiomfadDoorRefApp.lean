/- The reference's New: one class more. -/
import Derived.Test.YtefiliomfiomfadDoorRefB
import Derived.Deep.CutBlock
namespace Go.Proofs.YtefiliomfiomfadDoor
open Go.RowKit

theorem info54 : (Tryd.prog.info? 54).map (fun i => (i.zero, i.size, i.bytes)) = some (some (.agg #[.string ⟨#[]⟩, .string ⟨#[]⟩]), 2, 32) := by kernel_rfl
theorem always51 (w : World) : Calls Tryd.prog 51 #[] w fun e w' => e = .returned (.slice (some ⟨w.heap.size, 0, none⟩) 9 9) ∧ w' = w.alloc (.cells (base.flatMap cells2).toArray 54) := by
  go_enter Tryd.func51, Tryd.ntmps51
  go_wp2
  go_ret
  exact ⟨rfl, rfl⟩
theorem op_base (w : World) : OP (w.alloc (.cells (base.flatMap cells2).toArray 54)) (.slice (some ⟨w.heap.size, 0, none⟩) 9 9) base := World.ownsRow_lit w (base.flatMap cells2).toArray 9 (Nat.zero_le _) (by unfold maxLen; omega) (by rfl)
/-- Between the rounds of the reference's New. -/
def RInv (w : World) (p : Value) (H : List (BA × BA)) (wr : World) : Prop := ∃ F, RH wr F p H ∧ (∀ k, F k → w.heap.size ≤ k) ∧ Below w.heap.size w wr
theorem RInv.push {w wr w2 : World} {R gg cap : Nat} {v : Value} {H : List (BA × BA)} {p : BA × BA} (hbl : Below w.heap.size w wr) (hRw : w.heap.size ≤ R) (hb : wr.heap[R]? = some (.cells #[v] 63 (0, 0))) (hv : ∀ g, v.ownBlock = some g → w.heap.size ≤ g) (hne : v.ownBlock ≠ some R)
    (ho : OP w2 (.slice (some ⟨gg, 0, none⟩) (H.length + 1) cap) (H ++ [p])) (hc : Chg (fun k => v.ownBlock = some k) wr w2) (hat : v.ownBlock = some gg ∨ wr.heap.size ≤ gg) :
    RInv w (.pointer (some ⟨R, 0, none⟩)) (H ++ [p]) (w2.setCell ⟨R, 0, none⟩ (.slice (some ⟨gg, 0, none⟩) (H.length + 1) cap)) := by
  have hR := (Array.getElem?_eq_some_iff.1 hb).1
  have hgR : gg ≠ R := fun e => by
    rcases hat with h | h
    · exact hne (by rw [h, e])
    · omega
  have hgg : w.heap.size ≤ gg := hat.elim (hv gg) (fun h => Nat.le_trans hbl.size h)
  have hb2 : w2.heap[R]? = some (.cells #[v] 63 (0, 0)) := (hc.block R hR (fun e => hne e)).trans hb
  refine ⟨fun k => k = R ∨ (k = gg ∧ gg < w2.heap.size), ⟨?_, R, .slice (some ⟨gg, 0, none⟩) (H.length + 1) cap, rfl, ?_, ?_, ?_, .inl rfl, ?_⟩, ?_, ?_⟩
  · rintro k (rfl | ⟨rfl, h⟩)
    · have := hc.size; simp; omega
    · simpa using h
  · rw [heap_setCell_same w2 R 0 _ 63 _ hb2]
    rfl
  · exact ho.chg (Chg.setCell (F := fun k => k = R) w2 _ rfl) (fun k hk e => hgR (by have : gg = k := Option.some.inj hk; rw [this, e]))
  · intro e
    exact hgR (Option.some.inj e)
  · intro g hg
    have e : gg = g := Option.some.inj hg
    exact .inr ⟨e.symm, ho.lt gg rfl⟩
  · rintro k (rfl | ⟨rfl, _⟩)
    · exact hRw
    · exact hgg
  · exact (hbl.trans (hc.below hbl.size hv)).trans ((Chg.setCell (F := fun k => k = R) w2 _ rfl).below (Nat.le_trans hbl.size hc.size) (fun k e => by rw [e]; exact hRw))
end Go.Proofs.YtefiliomfiomfadDoor
