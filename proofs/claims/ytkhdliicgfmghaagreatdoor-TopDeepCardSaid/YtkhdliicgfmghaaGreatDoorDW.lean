/- The walk of TopDeep: for every whole number its calls return true, and what was there stays; the laid variables are as listed. -/
import Derived.Test.YtkhdliicgfmghaaGreatDoorDZ
import Derived.Test.YtkhdliicgfmghaaGreatDoorRows
import Derived.KernelRfl
namespace Go.Proofs.YtkhdliicgfmghaaGreatDoor
open Go Go.Ev
set_option maxRecDepth 100000
theorem kwf {z : Int} (h : (Lit.int .i64 z).wf = true) : inR .i64 z := by
  simpa [Lit.wf, inR] using h
theorem topDeep_row (z : Int) (W : World) (hz : (Lit.int .i64 z).wf = true) (hL : laidMet Tryz.prog Rows.topDeepRow.laid W) :
    Calls Tryz.prog 5 #[.int .i64 z] W (fun e W' => e = .returned (.bool true) ∧ RowKit.Below W.heap.size W W') :=
  KT.deep fun j => KT.started (A := cvA cvD2 Rows.laid_hornbook_ins_forms) (B := cvA cvD1 Rows.laid_strings_asciiSpace) (kwf hz)
    (laidR_pairs hL (n := "hornbook/ins.forms") (d := Rows.laid_hornbook_ins_forms) (List.mem_of_getElem? (i := 4) rfl) (t := 520) (by kernel_rfl) (by kernel_rfl) j Tryz.underlying520 Tryz.underlying519 Tryz.underlying9 Tryz.underlying3 (by kernel_rfl) (by kernel_rfl) rfl rfl (by kernel_rfl) (by kernel_rfl) (by decide) (by kernel_rfl))
    (laidR_bytes hL (n := "strings.asciiSpace") (d := Rows.laid_strings_asciiSpace) (List.mem_of_getElem? (i := 0) rfl) (t := 567) (by kernel_rfl) (by kernel_rfl) j Tryz.underlying567 Tryz.underlying5 (by kernel_rfl) (by kernel_rfl) (by decide) (by kernel_rfl))
    (by kernel_rfl)
end Go.Proofs.YtkhdliicgfmghaaGreatDoor
