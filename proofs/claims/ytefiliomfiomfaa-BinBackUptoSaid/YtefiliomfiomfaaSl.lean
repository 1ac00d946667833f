/- Slices of bytes that read as lists; slices.Clip; bin.Put. -/
import Derived.Test.YtefiliomfiomfaaPieces
import Derived.ArgAppend
import Derived.StillTailTactics
import Derived.Lib.Strings
namespace Go.Proofs.Ytefiliomfiomfaa
open Go.RowKit

/-- In the world w the slice v reads as the bytes l. -/
def Rd (w : World) (v : Value) (l : List UInt8) : Prop :=
  ∃ a c, v = .slice a l.length c ∧ l.length ≤ c ∧ (a = none → c = 0) ∧ (l ≠ [] → ∃ b o, a = some ⟨b, o, none⟩ ∧ b < w.heap.size ∧ ∀ i (h : i < l.length), w.cell? ⟨b, o + i, none⟩ = some (bv (l[i]'h)))
/-- In the world w the slice v owns the bytes l, in memory from the block 'base' on. -/
def Own (w : World) (base : Nat) (v : Value) (l : List UInt8) : Prop := w.ownsRow base 5 1 v l.length (l.map bv)

theorem Rd.below {w w' : World} {v : Value} {l : List UInt8} (h : Rd w v l) (hb : Below w.heap.size w w') : Rd w' v l := by
  obtain ⟨a, c, h1, h2, h3, h4⟩ := h
  refine ⟨a, c, h1, h2, h3, fun hl => ?_⟩
  obtain ⟨b, o, e, hlt, hc⟩ := h4 hl
  exact ⟨b, o, e, Nat.lt_of_lt_of_le hlt hb.size, fun i hi => (hb.cell (p := ⟨b, o + i, none⟩) hlt).trans (hc i hi)⟩
theorem Own.rd {w : World} {base : Nat} {v : Value} {l : List UInt8} (h : Own w base v l) : Rd w v l := by
  have hlt := World.ownsRow.lt h
  obtain ⟨h1, h2⟩ := h
  rcases h2 with ⟨rfl, hn⟩ | ⟨g, cap, cur, rfl, hb, hg, hnc, hcm, hcs, ht⟩
  · have : l = [] := List.eq_nil_of_length_eq_zero hn
    subst this
    exact ⟨none, 0, rfl, by simp, fun _ => rfl, fun h => absurd rfl h⟩
  · refine ⟨_, cap, rfl, hnc, (fun h => by cases h), fun _ => ⟨g, 0, rfl, (hlt g rfl).2, fun i hi => ?_⟩⟩
    rw [cell_of_row w g (0 + i) cur 5 (0, 0) hg]
    have : (l.map bv)[i]? = some (bv l[i]) := by rw [List.getElem?_map, List.getElem?_eq_getElem hi]; rfl
    rw [← ht, List.getElem?_take, Nat.mul_one, if_pos hi] at this
    simpa using this
theorem Own.below {w w' : World} {base : Nat} {v : Value} {l : List UInt8} (h : Own w base v l) (hb : Below w.heap.size w w') : Own w' base v l :=
  World.ownsRow.kept h ⟨hb.os, hb.tape, hb.output, hb.size, fun k hk _ => hb.block k hk⟩ (row := none) (by cases v.ownBlock <;> simp)
theorem Own.base {w : World} {base base' : Nat} {v : Value} {l : List UInt8} (h : Own w base v l) (hb : base' ≤ base) : Own w base' v l := by
  obtain ⟨h1, h2⟩ := h
  refine ⟨h1, ?_⟩
  rcases h2 with h2 | ⟨g, cap, cur, e, hg, r⟩
  · exact .inl h2
  · exact .inr ⟨g, cap, cur, e, by omega, r⟩
theorem Rd.cells {w : World} {a : Option Addr} {n c : Nat} {l : List UInt8} (h : Rd w (.slice a n c) l) : n = l.length ∧ (a = none → n = 0 ∧ c = 0) ∧ ∀ b, a = some b → ∀ j u, (l.map bv)[j]? = some u → w.cell? (b.add j) = some u := by
  obtain ⟨a', c', h1, h2, h3, h4⟩ := h
  injection h1 with e1 e2 e3
  subst e1 e2 e3
  refine ⟨rfl, fun hn => ⟨by have := h3 hn; omega, h3 hn⟩, ?_⟩
  intro b hb j u hu
  have hl : l ≠ [] := by intro e; subst e; simp at hu
  obtain ⟨b', o, e, _, hc⟩ := h4 hl
  rw [hb] at e
  injection e with e
  subst e
  have hj : j < l.length := by
    have := (List.getElem?_eq_some_iff.1 hu).1
    simpa using this
  have e : (⟨b', o, none⟩ : Addr).add j = ⟨b', o + j, none⟩ := by unfold Addr.add; split <;> simp_all
  rw [e, hc j hj, ← hu, List.getElem?_map, List.getElem?_eq_getElem hj]
  rfl
theorem oneCell_bv (l : List UInt8) : ∀ u ∈ l.map bv, u.oneCell' = true := by
  intro u hu
  obtain ⟨c, _, rfl⟩ := List.mem_map.1 hu
  rfl

theorem clip23 (a : Option Addr) (n c : Nat) (w : World) (h : n ≤ c) : Calls Try.prog 23 #[.slice a n c] w fun e w' => e = .returned (.slice a n n) ∧ w' = w := by
  go_enter Try.func23, Try.ntmps23
  go_wp2
  go_ret
  exact ⟨rfl, rfl⟩
theorem Try.info5 : (Try.prog.info? 5).map (fun i => (i.zero, i.size, i.bytes)) = some (some (.int .u8 0), 1, 1) := by kernel_rfl

theorem sl41 (b m : Nat) (hm : m ≤ 10) (W : World) : (Instr.sliceAt 41 (.pointer (some ⟨b, 0, none⟩)) none (some (.int .i64 (m : Int))) none).run Try.prog W = .ok (.slice (some ⟨b, 0, none⟩) m 10) W := by
  have hal : Try.prog.arrayLen 41 = 10 := by simp [Program.arrayLen, Try.underlying41]
  rw [run_sliceAt_array_h W 41 ⟨b, 0, none⟩ (by simp [Program.arrayLen, Program.elem, Try.underlying41]) .i64 (m : Int) (by omega) (by rw [hal]; omega)]
  simp [go_sem, Program.elem, Try.underlying41]

set_option maxHeartbeats 2000000 in
theorem put10 (v : Value) (l : List UInt8) (n : Int) (w : World) (hv : Rd w v l) (hlo : -9223372036854775808 ≤ n) (hhi : n ≤ 9223372036854775807) (hl : l.length + 10 ≤ 140737488355328) :
    Calls Try.prog 10 #[v, .int .i64 n] w fun e w' =>
    ∃ v', e = .returned v' ∧ Own w' w.heap.size v' (l ++ enc (zig n)) ∧ Below w.heap.size w w' := by
  obtain ⟨i0, hi, hz0, hz1, hz2⟩ := info_parts Try.info5
  obtain ⟨a, cap, rfl, hlc, hn0, hcells⟩ := hv
  have hclip := clip23 a l.length cap
  have hp := pieces22 n w hlo hhi
  have ht := ten_len (zig n) (zig_lt n hlo hhi)
  have hlen := enc_ten (zig n) (zig_lt n hlo hhi)
  have hpos := enc_pos (zig n)
  generalize zig n = u at *
  obtain ⟨c0, c1, c2, c3, c4, c5, c6, c7, c8, c9, hc⟩ : ∃ c0 c1 c2 c3 c4 c5 c6 c7 c8 c9, ten u = [c0, c1, c2, c3, c4, c5, c6, c7, c8, c9] := by
    generalize ten u = l at ht
    match l, ht with
    | [c0, c1, c2, c3, c4, c5, c6, c7, c8, c9], _ => exact ⟨c0, c1, c2, c3, c4, c5, c6, c7, c8, c9, rfl⟩
  have hce : cellsOf (ten u) = #[.int .u8 c0.toNat, .int .u8 c1.toNat, .int .u8 c2.toNat, .int .u8 c3.toNat, .int .u8 c4.toNat, .int .u8 c5.toNat, .int .u8 c6.toNat, .int .u8 c7.toNat, .int .u8 c8.toNat, .int .u8 c9.toNat] := by
    rw [hc]; rfl
  rw [hce] at hp
  obtain ⟨m, hm⟩ : ∃ m, m = (enc u).length := ⟨_, rfl⟩
  rw [← hm] at hp hlen hpos
  have HCE := Lib.hid hce
  have HM := Lib.hid hm
  have HN0 := Lib.hid hn0
  have HCELL := Lib.hid hcells
  have HCL := Lib.hid hclip
  clear hc hce hm ht hn0 hcells hclip
  go_enter Try.func10, Try.ntmps10
  go_wp2_with fail
  refine hp.mono ?_
  rintro e w1 ⟨rfl, hb⟩
  go_wp2_with fail
  obtain ⟨w2, hw2⟩ : ∃ w2, w2 = w1.alloc (.cells #[.int .u8 c0.toNat, .int .u8 c1.toNat, .int .u8 c2.toNat, .int .u8 c3.toNat, .int .u8 c4.toNat, .int .u8 c5.toNat, .int .u8 c6.toNat, .int .u8 c7.toNat, .int .u8 c8.toNat, .int .u8 c9.toNat] 41) := ⟨_, rfl⟩
  rw [← hw2]
  have hb2 : Below w.heap.size w w2 := by rw [hw2]; exact hb.alloc hb.size _
  have hnew : ∀ j u', ((enc u).map bv)[j]? = some u' → w2.cell? ((⟨w1.heap.size, 0, none⟩ : Addr).add j) = some u' := by
    intro j u' hu
    have hj := (List.getElem?_eq_some_iff.1 hu).1
    simp only [List.length_map, ← HM.out] at hj
    have e : (⟨w1.heap.size, 0, none⟩ : Addr).add j = ⟨w1.heap.size, j, none⟩ := by unfold Addr.add; split <;> simp_all
    rw [e, hw2, World.cell?_alloc_mark, ← HCE.out, ← hu]
    unfold cellsOf ten
    simp only [List.getElem?_toArray, List.map_append]
    rw [List.getElem?_append_left (by simp only [List.length_map, ← HM.out]; exact hj)]
  have hsz : w1.heap.size < w2.heap.size := by rw [hw2]; simp
  have hlo2 := hb.size
  have HB := Lib.hid hb
  have HB2 := Lib.hid hb2
  have HNEW := Lib.hid hnew
  clear hw2 hnew hb hb2
  refine wp_region_still_tail 4 (by kernel_rfl) (by kernel_rfl) ?_
  simp only [List.take_succ_cons, List.take_zero, List.drop_succ_cons, List.drop_zero]
  still_step
  still_call (HCL.out _ (by omega))
  have hsl := sl41 w1.heap.size m (by omega)
  still_step
  still_step
  clear hsl
  refine wpStill_nil ?_
  change wpList _ _ _ _ _ w2.drew
  have HNEW3 : Hid (∀ j u', ((enc u).map bv)[j]? = some u' → w2.drew.cell? ((⟨w1.heap.size, 0, none⟩ : Addr).add j) = some u') := HNEW.out
  have HB3 : Hid (Below w.heap.size w w2.drew) := HB2.out.drew
  have hsz3 : w1.heap.size < w2.drew.heap.size := hsz
  clear HNEW HB2 hsz HCL HCE
  generalize w2.drew = w3 at *
  have HR : Hid (Rd w3 (.slice a l.length cap) l) := Rd.below ⟨a, cap, rfl, hlc, HN0.out, HCELL.out⟩ HB3.out
  clear HN0 HCELL
  have hsz4 := HB3.out.size
  go_wp2_with (at_builtin; refine wpList_append_grows _ rfl (.tmp 13) (.tmp 15) 24 rfl 5 i0 (.int .u8 0) 1 1 Try.underlying24 hi hz0 hz1 hz2 rfl (by decide) a l.length l.length (l.map bv) rfl ?h1 ?h2 ?h3 ⟨w1.heap.size, 0, none⟩ m 10 ((enc u).map bv) rfl ?h4 HNEW3.out (oneCell_bv _) ?h5 ?h6 ?h7 ?_)
  case h1 => intro e; have := (Rd.cells HR.out).2.1 e; omega
  case h2 => simp
  case h3 => exact (Rd.cells HR.out).2.2
  case h4 => simp [← HM.out]
  case h5 => omega
  case h6 => unfold maxLen; omega
  case h7 => omega
  intro v' w4 hown hgr
  have HO := Lib.hid hown
  have HG := Lib.hid hgr
  clear hown hgr
  go_wp2
  go_ret
  refine ⟨v', rfl, ?_, HB3.out.grown HG.out (by omega) (fun k h => by cases h)⟩
  have : Own w4 w3.heap.size v' (l ++ enc u) := by
    unfold Own
    have := HO.out
    rw [HM.out] at this
    simpa using this
  exact this.base (by omega)
end Go.Proofs.Ytefiliomfiomfaa
