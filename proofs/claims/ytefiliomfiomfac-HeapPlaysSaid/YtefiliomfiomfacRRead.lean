/- The reference's New, Used, Find, Get, Len. -/
import Derived.Test.YtefiliomfiomfacRMem
namespace Go.Proofs.Ytefiliomfiomfac
open Go.RowKit Go.Maps

theorem len_used : ∀ (T : List Th), T.length ≤ used T
  | [] => Nat.zero_le _
  | t :: r => by rw [usedT_cons, List.length_cons]; have := len_used r; omega
theorem RT.len {w : World} {F : Nat → Prop} {p : Value} {L : List Rec} {most : Nat} (h : RT w F p L most) : L.length ≤ 4096 ∧ used (L.map thOf) ≤ 4096 := by
  have h1 := h.1.1
  have h2 := h.1.2.1
  have h3 := len_used (L.map thOf)
  rw [List.length_map] at h3
  exact ⟨by omega, by omega⟩
theorem used_step (L : List Rec) (k : Nat) (h : k < L.length) : used ((L.take (k + 1)).map thOf) = used ((L.take k).map thOf) + 1 + L[k].w.length := by
  rw [List.take_succ_eq_append_getElem h, List.map_append, usedT_append, List.map_cons, List.map_nil, usedT_cons, usedT_nil]
  show _ + (1 + L[k].w.length + 0) = _
  omega
theorem used_take_le (L : List Rec) (k : Nat) : used ((L.take k).map thOf) ≤ used (L.map thOf) := by
  have e : L.map thOf = (L.take k).map thOf ++ (L.drop k).map thOf := by rw [← List.map_append, List.take_append_drop]
  rw [e, usedT_append]
  omega
def UT (L : List Rec) (k : Nat) : Nat := used ((L.take k).map thOf)
theorem UT_step (L : List Rec) (k : Nat) (h : k < L.length) : UT L (k + 1) = UT L k + 1 + L[k].w.length := used_step L k h
theorem UT_le (L : List Rec) (k : Nat) : UT L k ≤ used (L.map thOf) := used_take_le L k
theorem UT_end (L : List Rec) (k : Nat) (h : L.length ≤ k) : UT L k = used (L.map thOf) := by unfold UT; rw [List.take_of_length_le h]
theorem UT_zero (L : List Rec) : UT L 0 = 0 := rfl
theorem usedR18 {w : World} {F : Nat → Prop} {p : Value} {L : List Rec} {most : Nat} (h : RT w F p L most) : Calls Try.prog 18 #[p] w fun e w' => e = .returned (.int .i64 (used (L.map thOf) : Int)) ∧ w' = w := by
  obtain ⟨hl, hu⟩ := h.len
  have HW := Lib.hid (fun i hi => h.ows i hi)
  obtain ⟨R, a, c, rfl, c0, c1, hs⟩ := h.see
  have HS := Lib.hid hs
  have HT := Lib.hid (UT_le L)
  have HU := Lib.hid (UT_step L)
  have HZ := Lib.hid (UT_zero L)
  clear h hs c0
  go_enter Try.func18, Try.ntmps18
  go_wp2
  go_loop [3, 4] (fun n i => ∃ k : Nat, k ≤ L.length ∧ n = .int .i64 (UT L k : Int) ∧ i = .int .i64 k) (fun _ i => L.length - (intOf i).toNat)
  case atStart => exact ⟨0, Nat.zero_le _, by rw [HZ.out]; rfl, rfl⟩
  case round =>
    obtain ⟨k, hk, rfl, rfl⟩ := hrel
    by_cases hkl : k < L.length
    · obtain ⟨b, rfl, _, _, y2, _⟩ := HS.out k hkl
      obtain ⟨wa, wc, hv⟩ := (HW.out k hkl).shape
      rw [hv] at y2
      have h1 := HU.out k hkl
      have h2 := HT.out (k + 1)
      have HX := Lib.hid h1
      generalize L[k].w.length = n at *
      clear hv
      have g1 : UT L k + 1 + n ≤ 4096 := by omega
      clear h1 h2
      go_wp2
      go_round
      case rel => exact ⟨k + 1, by omega, by rw [HX.out]; go_num, by go_num⟩
      case measure => simp [intOf]; omega
    · have HX : Hid (UT L k = used (L.map thOf)) := Lib.hid (UT_end L k (by omega))
      go_wp2
      go_ret
      rw [HX.out]
      exact ⟨rfl, rfl⟩
def FI (L : List Rec) (a : Int) : Int := optI (find (L.map thOf) a) 0
theorem find40 {w : World} {F : Nat → Prop} {p : Value} {L : List Rec} {most : Nat} (h : RT w F p L most) (x : Int) : Calls Try.prog 40 #[p, .int .i64 x] w fun e w' => e = .returned (.int .i64 (FI L x)) ∧ w' = w := by
  obtain ⟨hl, hu⟩ := h.len
  have HF : Hid (FI L x = fIdx x L 0) := Lib.hid (fIdx_find x L 0 0 h.2.1).symm
  obtain ⟨R, a, c, rfl, c0, c1, hs⟩ := h.see
  have HS := Lib.hid hs
  clear h hs c0
  generalize FI L x = r at *
  go_enter Try.func40, Try.ntmps40
  go_wp2
  go_loop [5] (fun i => ∃ k : Nat, k ≤ L.length ∧ i = .int .i64 k ∧ Hid (r = fIdx x (L.drop k) k)) (fun i => L.length - (intOf i).toNat)
  case atStart => exact ⟨0, Nat.zero_le _, rfl, HF⟩
  case round =>
    obtain ⟨k, hk, rfl, hfk⟩ := hrel
    by_cases hkl : k < L.length
    · obtain ⟨b, rfl, y0, _, _, _⟩ := HS.out k hkl
      have h2 := hfk.out
      rw [List.drop_eq_getElem_cons hkl, fIdx_cons] at h2
      generalize L[k].at_ = at_ at *
      by_cases hc : at_ = x
      · subst hc
        rw [if_pos rfl] at h2
        have HX := Lib.hid h2
        clear h2 hfk
        go_wp2
        go_ret
        rw [HX.out]
        exact ⟨rfl, rfl⟩
      · rw [if_neg hc] at h2
        have HX := Lib.hid h2
        have hd : (at_ == x) = false := by simpa using hc
        clear h2 hfk hc
        go_wp2
        go_round
        case rel => exact ⟨k + 1, by omega, by go_num, HX⟩
        case measure => simp [intOf]; omega
    · have h2 := hfk.out
      rw [List.drop_of_length_le (by omega)] at h2
      have HX := Lib.hid h2
      clear h2 hfk
      go_wp2
      go_ret
      rw [HX.out]
      exact ⟨rfl, rfl⟩
theorem find_rec {L : List Rec} {a : Int} {k : Nat} (h : find (L.map thOf) a = some k) : ∃ hk : k < L.length, words (L.map thOf) a = some L[k].w := by
  obtain ⟨hk, _⟩ := find_some h
  have hk2 : k < L.length := by simpa using hk
  exact ⟨hk2, by rw [words_some h hk]; simp [thOf]⟩
theorem FI_none {L : List Rec} {a : Int} (h : find (L.map thOf) a = none) : FI L a = -1 := by unfold FI; rw [h]; rfl
theorem FI_some {L : List Rec} {a : Int} {k : Nat} (h : find (L.map thOf) a = some k) : FI L a = (k : Int) := by unfold FI; rw [h]; simp [optI]
theorem RI.at_ {w : World} {a : Option Addr} {n c : Nat} {l : List Int} (h : RI w (.slice a n c) l) : n = l.length ∧ l.length ≤ c ∧ (l ≠ [] → ∃ b o, a = some ⟨b, o, none⟩ ∧ ∀ i (h : i < l.length), w.cell? ⟨b, o + i, none⟩ = some (.int .i64 l[i])) := by
  obtain ⟨a', c', e, h2, _, h4⟩ := h
  injection e with e1 e2 e3
  subst e1 e2 e3
  exact ⟨rfl, h2, fun hl => by obtain ⟨b, o, e, _, q⟩ := h4 hl; exact ⟨b, o, e, q⟩⟩
theorem lenR42 {w : World} {F : Nat → Prop} {p : Value} {L : List Rec} {most : Nat} (h : RT w F p L most) (x : Int) : Calls Try.prog 42 #[p, .int .i64 x] w fun e w' => e = .returned (two (lenF (L.map thOf) x)) ∧ w' = w := by
  have HF := Lib.hid (find40 h x)
  unfold lenF
  cases hf : find (L.map thOf) x with
  | none =>
    rw [words_none hf]
    rw [FI_none hf] at HF
    obtain ⟨R, rfl⟩ := h.p
    clear h hf
    go_enter Try.func42, Try.ntmps42
    go_wp2_with fail
    refine HF.out.mono ?_
    rintro e w1 ⟨rfl, rfl⟩
    go_wp2
    go_ret2
    exact ⟨rfl, rfl⟩
  | some k =>
    obtain ⟨hk, hw⟩ := find_rec hf
    rw [hw]
    rw [FI_some hf] at HF
    have how := (h.ows k hk)
    have hol := how.ri
    obtain ⟨hl, hu⟩ := h.len
    obtain ⟨R, a, c, rfl, c0, c1, hs⟩ := h.see
    obtain ⟨b, rfl, _, _, y2, _⟩ := hs k hk
    obtain ⟨wa, wc, hv⟩ := how.shape
    rw [hv] at y2 hol
    obtain ⟨_, _, hcl⟩ := hol.at_
    clear h hf hs c0 hw hv how
    generalize hlw : L[k].w = l at *
    cases l with
    | nil =>
      go_enter Try.func42, Try.ntmps42
      go_wp2_with fail
      refine HF.out.mono ?_
      rintro e w1 ⟨rfl, rfl⟩
      go_wp2
      go_ret2
      exact ⟨rfl, rfl⟩
    | cons z r =>
      obtain ⟨wb, wo, hwa, hcz⟩ := hcl (by simp)
      have hz := hcz 0 (by simp)
      subst hwa
      have hr2 : ((z :: r).length : Int) = (r.length : Int) + 1 := by simp
      clear hcz hcl hlw
      simp only [List.getElem_cons_zero, Nat.add_zero] at hz
      generalize r.length = n at *
      go_enter Try.func42, Try.ntmps42
      go_wp2_with fail
      refine HF.out.mono ?_
      rintro e w1 ⟨rfl, rfl⟩
      go_wp2
      go_ret2
      exact ⟨rfl, rfl⟩
theorem newR_bad (n : Int) (w : World) (h : n < 16 ∨ 4096 < n) : Calls Try.prog 19 #[.int .i64 n] w fun e w' => e = .returned (.tuple #[.pointer none, .int .i64 2]) ∧ w' = w := by
  by_cases h1 : n < 16
  · clear h
    go_enter Try.func19, Try.ntmps19
    go_wp2
    go_ret2
    exact ⟨rfl, rfl⟩
  · have h2 : 4096 < n := by omega
    clear h
    go_enter Try.func19, Try.ntmps19
    go_wp2
    go_ret2
    exact ⟨rfl, rfl⟩
def NRPost (w : World) (n : Nat) (e : Ending) (w' : World) : Prop := ∃ p F, e = .returned (.tuple #[p, .int .i64 0]) ∧ RT w' F p [] n ∧ (∀ k, F k → w.heap.size ≤ k) ∧ Below w.heap.size w w'
theorem newR_ok (n : Nat) (w : World) (h1 : 16 ≤ n) (h2 : n ≤ 4096) : Calls Try.prog 19 #[.int .i64 n] w (NRPost w n) := by
  have HB : Hid (Below w.heap.size w (w.alloc (.cells #[.int .i64 n, .slice none 0 0] 43))) := Lib.hid ((Below.refl _ w).alloc (Nat.le_refl _) _)
  go_enter Try.func19, Try.ntmps19
  go_wp2
  go_ret2
  refine ⟨_, fun k => k = w.heap.size, rfl, ⟨⟨h2, Nat.zero_le _, (fun _ h => by cases h)⟩, trivial, fun k e => by rw [e]; simp, w.heap.size, .slice none 0 0, rfl, heap_alloc_new w _, World.ownsRow_nil _ _ _ _, rfl, (fun _ h => by cases h), (fun i h => by cases h), (fun i j h => by cases h)⟩, fun k e => Nat.le_of_eq e.symm, HB.out⟩
set_option maxHeartbeats 1000000 in
theorem getR41 {w : World} {F : Nat → Prop} {p : Value} {L : List Rec} {most : Nat} (h : RT w F p L most) (x i : Int) : Calls Try.prog 41 #[p, .int .i64 x, .int .i64 i] w fun e w' => e = .returned (two (getF (L.map thOf) x i)) ∧ w' = w := by
  have HF := Lib.hid (find40 h x)
  unfold getF
  cases hf : find (L.map thOf) x with
  | none =>
    rw [words_none hf]
    rw [FI_none hf] at HF
    obtain ⟨R, rfl⟩ := h.p
    clear h hf
    go_enter Try.func41, Try.ntmps41
    go_wp2_with fail
    refine HF.out.mono ?_
    rintro e w1 ⟨rfl, rfl⟩
    go_wp2
    go_ret2
    exact ⟨rfl, rfl⟩
  | some k =>
    obtain ⟨hk, hw⟩ := find_rec hf
    rw [hw]
    rw [FI_some hf] at HF
    have how := (h.ows k hk)
    have hol := how.ri
    obtain ⟨hl, hu⟩ := h.len
    obtain ⟨R, a, c, rfl, c0, c1, hs⟩ := h.see
    obtain ⟨b, rfl, _, _, y2, _⟩ := hs k hk
    obtain ⟨wa, wc, hv⟩ := how.shape
    rw [hv] at y2 hol
    obtain ⟨_, _, hcl⟩ := hol.at_
    clear h hf hs c0 hw hv how hol
    generalize hlw : L[k].w = l at *
    clear hlw
    simp only
    by_cases hneg : i < 0
    · rw [if_neg (by omega)]
      go_enter Try.func41, Try.ntmps41
      go_wp2_with fail
      refine HF.out.mono ?_
      rintro e w1 ⟨rfl, rfl⟩
      go_wp2
      go_ret2
      exact ⟨rfl, rfl⟩
    · by_cases hge : (l.length : Int) ≤ i
      · rw [if_neg (by omega)]
        go_enter Try.func41, Try.ntmps41
        go_wp2_with fail
        refine HF.out.mono ?_
        rintro e w1 ⟨rfl, rfl⟩
        go_wp2
        go_ret2
        exact ⟨rfl, rfl⟩
      · rw [if_pos (by omega)]
        obtain ⟨j, rfl⟩ : ∃ j : Nat, i = (j : Int) := ⟨i.toNat, by omega⟩
        have hj : j < l.length := by omega
        obtain ⟨wb, wo, hwa, hcz⟩ := hcl (by intro e; rw [e] at hj; simp at hj)
        have hz := hcz j hj
        have hg : l.getD (j : Int).toNat 0 = l[j] := by simp [List.getD_eq_getElem?_getD, hj]
        rw [hg]
        subst hwa
        clear hcz hcl hg hneg hge
        generalize l[j] = z at *
        generalize l.length = n at *
        go_enter Try.func41, Try.ntmps41
        go_wp2_with fail
        refine HF.out.mono ?_
        rintro e w1 ⟨rfl, rfl⟩
        go_wp2
        go_ret2
        exact ⟨rfl, rfl⟩
end Go.Proofs.Ytefiliomfiomfac
