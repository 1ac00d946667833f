/- The rows' ties: what is listed is what the program's own text lays; no conditions. -/
import Derived.Test.YtkhdliicgfmghaaGreatDoorRows
import Derived.LaidByTextLater
import Derived.SevenTiedAt
import Derived.LaidOnce
namespace Go.Proofs.YtkhdliicgfmghaaGreatDoor
open Go
set_option maxRecDepth 100000
namespace KTie
noncomputable def vl : List (String × DataW Unit) := [("strings.asciiSpace", Rows.laid_strings_asciiSpace), ("unicode.White_Space", Rows.laid_unicode_White_Space), ("unicode/utf8.acceptRanges", Rows.laid_unicode_utf8_acceptRanges), ("hornbook/ins.forms", Rows.laid_hornbook_ins_forms)]
theorem tw : Tryz.prog.worded (varsWordLater true) = true := by kernel_rfl
theorem tw' : Tryz.prog.worded (varsWordLater !true) = false := by kernel_rfl
theorem tr : Tryz.prog.worded rootWordLater = true := by kernel_rfl
theorem tk : vl.map (fun x => Tryz.prog.kindOfLater x.1) = [LaidKind.data, .listed, .data, .data].map some := by kernel_rfl
theorem tg : (Tryz.prog.funcNamed "gosem.cut.vars").isSome = true := by kernel_rfl
theorem td : ∀ os tape, varsDone Tryz.prog 400 (varsId Tryz.prog) os tape = true := fun _ _ => by kernel_rfl
theorem t1 : ∀ os tape, (DataW.laidRun Tryz.prog (varsWorld Tryz.prog 400 (varsId Tryz.prog) os tape).memory 8 (vl.map (·.1))).map (·.1) = some vl := fun _ _ => by kernel_rfl
theorem t2a : ∀ os tape, (DataW.laidRun Tryz.prog (varsWorld Tryz.prog 400 (varsId Tryz.prog) os tape).memory 8 (vl.map (·.1))).map (fun x => nodupBits 300 x.2 0) = some true := fun _ _ => by kernel_rfl
theorem t2b : ∀ os tape, (DataW.laidRun Tryz.prog (varsWorld Tryz.prog 400 (varsId Tryz.prog) os tape).memory 8 (vl.map (·.1))).map (fun x => laidRowsB Tryz.prog (varsWorld Tryz.prog 400 (varsId Tryz.prog) os tape).memory x.2) = some true := fun _ _ => by kernel_rfl
theorem t2 (os : Os) (tape : Tape) : (DataW.laidRun Tryz.prog (varsWorld Tryz.prog 400 (varsId Tryz.prog) os tape).memory 8 (vl.map (·.1))).map (fun x => decide x.2.Nodup && laidRowsB Tryz.prog (varsWorld Tryz.prog 400 (varsId Tryz.prog) os tape).memory x.2) = some true := by
  have h1 := t2a os tape
  have h2 := t2b os tape
  generalize DataW.laidRun Tryz.prog (varsWorld Tryz.prog 400 (varsId Tryz.prog) os tape).memory 8 (vl.map (·.1)) = y at h1 h2 ⊢
  cases y with
  | none => cases h1
  | some x =>
    have h1 : some (nodupBits 300 x.2 0) = some true := h1
    have h2 : some (laidRowsB Tryz.prog (varsWorld Tryz.prog 400 (varsId Tryz.prog) os tape).memory x.2) = some true := h2
    injection h1 with h1
    injection h2 with h2
    show some (decide x.2.Nodup && laidRowsB Tryz.prog (varsWorld Tryz.prog 400 (varsId Tryz.prog) os tape).memory x.2) = some true
    rw [h2, decide_eq_true (nodupBits_sound h1).1]
    rfl
theorem tp : (vl.all fun x => x.2.handleName?.isNone) = true := by kernel_rfl
theorem tn : varsNamedLaterB Tryz.prog (varsId Tryz.prog) vl = true := by kernel_rfl
theorem tie : Tryz.prog.laidByTextLater vl [.data, .listed, .data, .data] true :=
  Program.laidByTextLater_by_run 400 8 tw tw' tr tk tg tn td t1 t2 tp
theorem pin : Tryz.pinned.checked.prog.pinnedFits "unicode/utf8.first" = true := by kernel_rfl
theorem noOwn : Tryz.pinned.checked.prog.headLifts.contains "ownunsafe" = false := by kernel_rfl
theorem fits : Tryz.pinned.checked.prog.listedFits [("strings.asciiSpace", Rows.laid_strings_asciiSpace), ("unicode.White_Space", Rows.laid_unicode_White_Space), ("unicode/utf8.first", Rows.laid_unicode_utf8_first), ("unicode/utf8.acceptRanges", Rows.laid_unicode_utf8_acceptRanges), ("hornbook/ins.forms", Rows.laid_hornbook_ins_forms)] = true := by
  unfold Program.listedFits
  rw [noOwn]
  kernel_rfl
end KTie
theorem topHeld_row_tie : Rows.topHeldRow.laidByTextAt .later Tryz.pinned [.data, .listed, .pinned, .data, .data] true :=
  OpenClaim.laidByTextAt_pinned rfl rfl KTie.tie rfl rfl rfl rfl (fun y hy _e => by
    simp only [Rows.topHeldRow, List.zip_cons_cons, List.zip_nil_right, List.mem_cons, List.mem_nil_iff, or_false] at hy
    rcases hy with rfl | rfl | rfl | rfl | rfl
    · cases _e
    · cases _e
    · exact ⟨KTie.pin, by kernel_rfl⟩
    · cases _e
    · cases _e) KTie.fits
theorem topDeep_row_tie : Rows.topDeepRow.laidByTextAt .later Tryz.pinned [.data, .listed, .pinned, .data, .data] true :=
  OpenClaim.laidByTextAt_pinned rfl rfl KTie.tie rfl rfl rfl rfl (fun y hy _e => by
    simp only [Rows.topDeepRow, List.zip_cons_cons, List.zip_nil_right, List.mem_cons, List.mem_nil_iff, or_false] at hy
    rcases hy with rfl | rfl | rfl | rfl | rfl
    · cases _e
    · cases _e
    · exact ⟨KTie.pin, by kernel_rfl⟩
    · cases _e
    · cases _e) KTie.fits
end Go.Proofs.YtkhdliicgfmghaaGreatDoor
