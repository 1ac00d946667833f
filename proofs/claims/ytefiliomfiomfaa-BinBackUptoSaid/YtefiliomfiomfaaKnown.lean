/- known: what must come of fixed calls. -/
import Derived.Test.YtefiliomfiomfaaRGet2
import Derived.Test.YtefiliomfiomfaaName2
namespace Go.Proofs.Ytefiliomfiomfaa
open Go.RowKit

theorem enc600 : enc (zig 300) = [216, 4] := by
  have e : zig 300 = 600 := by decide
  rw [e, enc_big (by decide)]
  have e2 : 600 / 128 = 4 := by decide
  rw [e2, enc_small (by decide)]
  rfl
theorem getF_one : getF [216, 4] 0 = (300, 2, 0) := by
  have he : endAt [216, 4] = 1 := by decide
  have hv : val ([216, 4] : List UInt8) % 18446744073709551616 = zig 300 := by decide
  have hu : unz (zig 300) = 300 := unz_zig 300
  unfold getF getL
  rw [if_neg (by decide)]
  show (if 10 ≤ endAt [216, 4] then _ else _) = _
  rw [he]
  rw [if_neg (by decide), if_neg (by decide)]
  show (if enc (val [216, 4] % 18446744073709551616) = [216, 4] then _ else _) = _
  rw [hv, enc600, if_pos rfl]
  show (unz (val [216, 4] % 18446744073709551616), _, _) = _
  rw [hv, hu]
  rfl
theorem getF_two : getF [128, 0] 0 = (0, 0, 5) := by
  have he : endAt [128, 0] = 1 := by decide
  have hv : val ([128, 0] : List UInt8) % 18446744073709551616 = 0 := by decide
  unfold getF getL
  rw [if_neg (by decide)]
  show (if 10 ≤ endAt [128, 0] then _ else _) = _
  rw [he]
  rw [if_neg (by decide), if_neg (by decide)]
  show (if enc (val [128, 0] % 18446744073709551616) = [128, 0] then _ else _) = _
  rw [hv, enc_small (by decide), if_neg (by decide)]
theorem rd_two (w : World) (T : TypeId) : Rd (w.alloc (.cells #[.int .u8 128, .int .u8 0] T)) (.slice (some ⟨w.heap.size, 0, none⟩) 2 2) [128, 0] := by
  refine ⟨_, 2, rfl, by simp, (fun h => by cases h), fun _ => ⟨w.heap.size, 0, rfl, by simp, ?_⟩⟩
  intro i hi
  rw [World.cell?_alloc_mark]
  match i, hi with
  | 0, _ => rfl
  | 1, _ => rfl
theorem nm_a1 : nmB ⟨#[97, 49]⟩ = true := by
  refine nmB_true ⟨by decide, by decide, fun j h => ?_⟩
  match j, h with
  | 0, _ => exact .inl (show letB 97 = true by decide)
  | 1, _ => exact .inr ⟨(show digB 49 = true by decide), by decide⟩
theorem nm_1a : nmB ⟨#[49, 97]⟩ = false := by
  refine nmB_false fun n => ?_
  rcases n.2.2 0 (by decide) with a | a
  · revert a; decide
  · exact a.2 rfl
theorem len_two {w : World} {v : Value} (h : Rd w v [216, 4]) : ∃ a c, v = .slice a 2 c := by
  obtain ⟨a, c, e, _⟩ := h
  exact ⟨a, c, e⟩
set_option maxHeartbeats 2000000 in
theorem known9 (w : World) : Calls Try.prog 9 #[] w fun e w' => e = .returned (.bool true) ∧ Below w.heap.size w w' := by
  have h1 := fun w => put10 (.slice none 0 0) [] 300 w (Own.nil w 0).rd (by omega) (by omega) (by rw [List.length_nil]; omega)
  rw [enc600, List.nil_append] at h1
  have h2 : ∀ v w, Rd w v [216, 4] → Calls Try.prog 11 #[v, .int .i64 0] w fun e w' => e = .returned (.tuple #[.int .i64 300, .int .i64 2, .int .i64 0]) ∧ Below w.heap.size w w' := by
    intro v w hv
    have := get11 v [216, 4] 0 w hv (by decide)
    rw [getF_one] at this
    exact this
  have h3 : ∀ v w, Rd w v [128, 0] → Calls Try.prog 11 #[v, .int .i64 0] w fun e w' => e = .returned (.tuple #[.int .i64 0, .int .i64 0, .int .i64 5]) ∧ Below w.heap.size w w' := by
    intro v w hv
    have := get11 v [128, 0] 0 w hv (by decide)
    rw [getF_two] at this
    exact this
  have h4 := name7 ⟨#[97, 49]⟩
  rw [nm_a1] at h4
  have h5 := name7 ⟨#[49, 97]⟩
  rw [nm_1a] at h5
  have h6 : ∀ w v, Rd w v [216, 4] → (convert 24 9 v).run Try.prog w = .ok (.string ⟨#[216, 4]⟩) w := fun w v h => h.text
  have H1 := Lib.hid h1
  have H2 := Lib.hid h2
  have H3 := Lib.hid h3
  have H4 := Lib.hid h4
  have H5 := Lib.hid h5
  have H6 := Lib.hid h6
  clear h1 h2 h3 h4 h5 h6
  go_enter Try.func9, Try.ntmps9
  go_wp2_with fail
  refine (H1.out _).mono ?_
  rintro e w1 ⟨v, rfl, ho, hb⟩
  have HR := Lib.hid ho.rd
  have HB := Lib.hid hb
  clear ho hb
  go_wp2_with fail
  refine (H2.out _ _ HR.out).mono ?_
  rintro e w2 ⟨rfl, hb⟩
  have HR2 := Lib.hid (HR.out.below hb)
  have HB2 := Lib.hid (HB.out.trans (hb.mono HB.out.size))
  clear hb HR HB
  go_wp2_with fail
  refine (H3.out _ _ (rd_two _ _)).mono ?_
  rintro e w3 ⟨rfl, hb⟩
  have hb' : Below w2.heap.size w2 w3 := ((Below.refl _ _).alloc (Nat.le_refl _) _).trans (hb.mono (by simp))
  have hc := H6.out w3 v (HR2.out.below hb')
  have HB3 := Lib.hid (HB2.out.trans (hb'.mono HB2.out.size))
  clear hb hb' HR2 HB2
  go_wp2_with fail
  refine (H4.out _).mono ?_
  rintro e w4 ⟨rfl, rfl⟩
  go_wp2_with fail
  refine (H5.out _).mono ?_
  rintro e w4 ⟨rfl, rfl⟩
  go_wp2_with fail
  go_ret
  exact ⟨rfl, HB3.out⟩
/-- BinNames answers true. -/
theorem names_row (s : ByteArray) (w : World) (_ : s.size ≤ 140737488351232) : Calls Try.prog 3 #[.string s] w fun e w' => e = .returned (.bool true) ∧ Below w.heap.size w w' := by
  have h1 := name7 s
  have h2 := name8 s
  generalize nmB s = b at *
  have H1 := Lib.hid h1
  have H2 := Lib.hid h2
  clear h1 h2
  cases b
  all_goals
    go_enter Try.func3, Try.ntmps3
    go_wp2_with fail
    refine (H1.out _).mono ?_
    rintro e w' ⟨rfl, rfl⟩
    go_wp2_with fail
    refine (H2.out _).mono ?_
    rintro e w' ⟨rfl, rfl⟩
    go_wp2_with fail
    refine (known9 _).mono ?_
    rintro e w' ⟨rfl, hb⟩
    go_wp2_with fail
    go_ret
    exact ⟨rfl, hb⟩
end Go.Proofs.Ytefiliomfiomfaa
