/- The walks of the laws on numbers, as the rows ask for them. -/
import Derived.Test.YtefiliomfiomfabLaws
namespace Go.Proofs.Ytefiliomfiomfab
open Go.RowKit
theorem wf64 {a : Int} (h : (Lit.int .i64 a).wf = true) : Rng a := by
  simp [Lit.wf, IntKind.min, IntKind.max, IntKind.signed, IntKind.bits] at h
  exact h
theorem does_row (op a b : Int) (w : World) (_ : (Lit.int .i64 op).wf = true) (_ : (Lit.int .i64 a).wf = true) (_ : (Lit.int .i64 b).wf = true) :
    Calls Try.prog 3 #[.int .i64 op, .int .i64 a, .int .i64 b] w fun e w' => e = .returned (.bool true) ∧ Below w.heap.size w w' := does_walk op a b w
theorem order_row (a b : Int) (w : World) (_ : (Lit.int .i64 a).wf = true) (_ : (Lit.int .i64 b).wf = true) :
    Calls Try.prog 6 #[.int .i64 a, .int .i64 b] w fun e w' => e = .returned (.bool true) ∧ Below w.heap.size w w' := order_walk a b w
theorem parts_row (a b : Int) (w : World) (ha : (Lit.int .i64 a).wf = true) (hb : (Lit.int .i64 b).wf = true) :
    Calls Try.prog 5 #[.int .i64 a, .int .i64 b] w fun e w' => e = .returned (.bool true) ∧ Below w.heap.size w w' := parts_walk a b w (wf64 ha) (wf64 hb)
theorem texts_row (n : Int) (s : ByteArray) (w : World) (ha : (Lit.int .i64 n).wf = true) (hs : s.size ≤ 140737488351232) :
    Calls Try.prog 4 #[.int .i64 n, .string s] w fun e w' => e = .returned (.bool true) ∧ Below w.heap.size w w' := texts_walk n s w (wf64 ha) (by unfold maxLen; omega)
end Go.Proofs.Ytefiliomfiomfab
