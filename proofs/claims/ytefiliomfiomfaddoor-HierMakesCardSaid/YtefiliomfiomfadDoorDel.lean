/- slices.DeleteFunc with hier's Below. -/
import Derived.Test.YtefiliomfiomfadDoorRefEq
import Derived.Lib.SliceRun
namespace Go.Proofs.YtefiliomfiomfadDoor
open Go.RowKit Go.Maps

set_option maxHeartbeats 1000000 in
theorem index34_39 (g : BA → Bool) (cap cap2 : Value) (l : List BA) (v : Value) (w : World) (hl : RS w v l) (hlen : l.length ≤ 1048576)
    (hg : ∀ s, s ∈ l → ∀ w', Below w.heap.size w w' → Calls Tryd.prog 39 #[.string s, cap, cap2] w' fun e w'' => e = .returned (.bool (g s)) ∧ Below w'.heap.size w' w'') :
    Calls Tryd.prog 34 #[v, .func (Fn.func 39) #[] #[cap, cap2]] w fun e w' => e = .returned (.int .i64 (idxN g l 0)) ∧ Below w.heap.size w w' := by
  obtain ⟨a, c, rfl, hlc, _, hcl⟩ := hl
  have HCL := Lib.hid hcl
  have HG := Lib.hid hg
  clear hcl hg
  go_enter Tryd.func34, Tryd.ntmps34
  go_wp2
  go_loopw [8] (fun i wr => ∃ k : Nat, k ≤ l.length ∧ i = .int .i64 k ∧ Hid (Below w.heap.size w wr) ∧ Hid (idxN g l 0 = idxN g (l.drop k) k)) (fun i _ => l.length - (intOf i).toNat)
  case atStart => exact ⟨0, Nat.zero_le _, rfl, Lib.hid (Below.refl _ _), Lib.hid rfl⟩
  case round =>
    obtain ⟨k, hk, rfl, hb, hr⟩ := hrel
    by_cases hkl : k < l.length
    · obtain ⟨b, o, rfl, hbl, hcell⟩ := HCL.out (fun e => by rw [e] at hkl; simp at hkl)
      have hc := (hb.out.cell (p := ⟨b, o + k, none⟩) hbl).trans (hcell k hkl)
      have hcall := HG.out l[k] (List.getElem_mem hkl) wr hb.out
      have hr2 := hr.out
      rw [List.drop_eq_getElem_cons hkl, idxN_cons] at hr2
      generalize l[k] = s at *
      have HR := Lib.hid hr2
      have HC := Lib.hid hcall
      clear hcell hcall hr hr2
      cases hgs : g s with
      | true =>
        have h2 := HR.out
        rw [hgs] at h2 HC
        have HX : Hid (idxN g l 0 = (k : Int)) := Lib.hid h2
        clear h2 hgs HR
        go_wp2_with fail
        refine HC.out.mono ?_
        rintro e w2 ⟨rfl, hb2⟩
        have HB := Lib.hid (hb.out.trans (hb2.mono hb.out.size))
        clear hb2
        go_wp2
        go_ret
        rw [HX.out]
        exact ⟨rfl, HB.out⟩
      | false =>
        have h2 := HR.out
        rw [hgs] at h2 HC
        have HX : Hid (idxN g l 0 = idxN g (l.drop (k + 1)) (k + 1)) := Lib.hid h2
        clear h2 hgs HR
        go_wp2_with fail
        refine HC.out.mono ?_
        rintro e w2 ⟨rfl, hb2⟩
        have HB := Lib.hid (hb.out.trans (hb2.mono hb.out.size))
        clear hb2
        go_wp2
        go_roundw
        case rel => exact ⟨k + 1, by omega, by go_num, HB, HX⟩
        case measure => simp [intOf]; omega
    · have hr2 := hr.out
      rw [List.drop_of_length_le (by omega)] at hr2
      have HX : Hid (idxN g l 0 = -1) := Lib.hid hr2
      clear hr hr2
      go_wp2
      go_ret
      rw [HX.out]
      exact ⟨rfl, hb.out⟩

theorem idx_spec (g : BA → Bool) : ∀ (l : List BA) (k : Nat), (idxN g l k = -1 ∧ l.filter (fun s => !(g s)) = l) ∨ ∃ i : Nat, idxN g l k = ((k + i : Nat) : Int) ∧ i < l.length ∧ (l.take (i + 1)).filter (fun s => !(g s)) = l.take i
  | [], k => .inl ⟨rfl, rfl⟩
  | s :: r, k => by
    rw [idxN_cons]
    cases hg : g s with
    | true => exact .inr ⟨0, rfl, by simp, by simp [hg]⟩
    | false =>
      rcases idx_spec g r (k + 1) with ⟨h1, h2⟩ | ⟨i, h1, h2, h3⟩
      · exact .inl ⟨h1, by simp [hg, h2]⟩
      · refine .inr ⟨i + 1, by simp only [Bool.false_eq_true, if_false]; rw [h1]; congr 1; omega, by simpa using h2, ?_⟩
        rw [List.take_succ_cons, List.filter_cons]
        simp only [hg, Bool.not_false, if_true]
        rw [h3, List.take_succ_cons]
theorem filter_take (g : BA → Bool) (l : List BA) (q : Nat) (h : q < l.length) : (l.take (q + 1)).filter (fun s => !(g s)) = (l.take q).filter (fun s => !(g s)) ++ (if g l[q] then [] else [l[q]]) := by
  rw [List.take_succ_eq_append_getElem h, List.filter_append]
  congr 1
  rw [List.filter_cons]
  cases g l[q] <;> rfl
theorem OS.stored {w : World} {g n c : Nat} {l : List BA} (h : OS w (.slice (some ⟨g, 0, none⟩) n c) l) (j : Nat) (x : BA) : OS (w.setCell ⟨g, j, none⟩ (.string x)) (.slice (some ⟨g, 0, none⟩) n c) (l.set j x) := by
  have hn : n = l.length := by
    obtain ⟨a, d, e⟩ := h.shape
    injection e
  subst hn
  have := (World.ownsRow.stored h j (.string x)).1
  unfold OS
  rw [List.length_set, List.map_set]
  exact this
theorem OS.cell {w : World} {g n c : Nat} {l : List BA} (h : OS w (.slice (some ⟨g, 0, none⟩) n c) l) (j : Nat) (hj : j < l.length) : w.cell? ⟨g, j, none⟩ = some (.string l[j]) ∧ w.frozen? ⟨g, j, none⟩ = false := by
  have hn : n = l.length := by
    obtain ⟨a, d, e⟩ := h.shape
    injection e
  subst hn
  refine ⟨?_, World.ownsRow.frozenAt h _⟩
  rw [World.ownsRow.cellAt h j (by omega), List.getElem?_map, List.getElem?_eq_getElem hj]
  rfl
theorem OS.cleared {g n c : Nat} : ∀ (k p : Nat) (w : World) (l : List BA), OS w (.slice (some ⟨g, 0, none⟩) n c) l → p + k ≤ l.length →
    ∃ l', OS (w.setCells g p (List.replicate k (.string ⟨#[]⟩))) (.slice (some ⟨g, 0, none⟩) n c) l' ∧ l'.take p = l.take p ∧ l'.length = l.length
  | 0, p, w, l, h, _ => ⟨l, h, rfl, rfl⟩
  | k + 1, p, w, l, h, hk => by
    obtain ⟨l', h1, h2, h3⟩ := OS.cleared k (p + 1) (w.setCell ⟨g, p, none⟩ (.string ⟨#[]⟩)) (l.set p ⟨#[]⟩) (h.stored p ⟨#[]⟩) (by rw [List.length_set]; omega)
    refine ⟨l', h1, ?_, by rw [h3, List.length_set]⟩
    have e := congrArg (List.take p) h2
    rw [List.take_take, List.take_take, Nat.min_eq_left (by omega)] at e
    rw [e, List.take_set_of_le (Nat.le_refl _)]
theorem OS.taken {w : World} {g n c : Nat} {l : List BA} (h : OS w (.slice (some ⟨g, 0, none⟩) n c) l) (p : Nat) (hp : p ≤ l.length) : OS w (.slice (some ⟨g, 0, none⟩) p c) (l.take p) := by
  rcases h.2 with ⟨e, _⟩ | ⟨g', cap, cur, e, h1, h2, h3, h4, h5, h6⟩
  · cases e
  · injection e with e1 e2 e3
    injection e1 with e1
    injection e1 with e1
    subst e1 e2 e3
    refine ⟨by simp, .inr ⟨g, c, cur, by rw [List.length_take, Nat.min_eq_left hp], h1, h2, ?_, h4, h5, ?_⟩⟩
    · rw [List.length_take]; omega
    · rw [List.length_take, Nat.min_eq_left hp, Nat.mul_one, List.map_take, ← h6, List.take_take, Nat.min_eq_left (by omega)]
theorem Chg.cells {F : Nat → Prop} {g : Nat} (hF : F g) : ∀ (vs : List Value) (p : Nat) (w a : World), Chg F w a → Chg F w (a.setCells g p vs)
  | [], _, _, _, h => h
  | _ :: r, p, w, _, h => Chg.cells hF r (p + 1) w _ (h.set _ hF)
/-- What DeleteFunc leaves. -/
def DPost (w : World) (v : Value) (l : List BA) (e : Ending) (w' : World) : Prop := ∃ v', e = .returned v' ∧ OS w' v' l ∧ v'.ownBlock = v.ownBlock ∧ Chg (fun k => v.ownBlock = some k) w w'
set_option maxRecDepth 100000 in
set_option maxHeartbeats 2000000 in
theorem delete38 (g : BA → Bool) (cap cap2 : Value) (l : List BA) (v : Value) (w : World) (ho : OS w v l) (hlen : l.length ≤ 1048576)
    (hg : ∀ s, s ∈ l → ∀ w', Chg (fun k => v.ownBlock = some k) w w' → Calls Tryd.prog 39 #[.string s, cap, cap2] w' fun e w'' => e = .returned (.bool (g s)) ∧ Below w'.heap.size w' w'') :
    Calls Tryd.prog 38 #[v, .func (Fn.func 39) #[] #[cap, cap2]] w (DPost w v (l.filter (fun s => !(g s)))) := by
  have HIX := Lib.hid (index34_39 g cap cap2 l v w ho.rs hlen (fun s hs w' hb => hg s hs w' ((Chg.of_below hb))))
  have HO := Lib.hid ho
  have HG := Lib.hid hg
  have HLN := Lib.hid hlen
  rcases idx_spec g l 0 with ⟨h1, h2⟩ | ⟨i, h1, h2, h3⟩
  · rw [h1] at HIX
    rw [h2]
    obtain ⟨va, vn, vc, rfl⟩ := ho.shape3
    clear hg h1 h2 ho
    go_enter Tryd.func38, Tryd.ntmps38
    go_wp2_with fail
    refine HIX.out.mono ?_
    rintro e w1 ⟨rfl, hb⟩
    have HC := Lib.hid (Chg.of_below (F := fun _ => False) hb)
    clear hb
    go_wp2
    go_ret
    exact ⟨_, rfl, HO.out.chg HC.out (fun _ _ e => e), rfl, HC.out.mono (fun _ e => e.elim)⟩
  · rw [h1] at HIX
    rw [Nat.zero_add] at HIX
    have hsh : ∃ gb c, v = .slice (some ⟨gb, 0, none⟩) l.length c ∧ l.length ≤ c := by
      rcases ho.2 with ⟨_, hn⟩ | ⟨gb, c, cur, e, _, _, hnc, _⟩
      · omega
      · exact ⟨gb, c, e, hnc⟩
    obtain ⟨gb, c, rfl, hlc⟩ := hsh
    have HST : Hid ((l.take (i + 1)).filter (fun s => !(g s)) = l.take i) := Lib.hid h3
    clear hg h1 h3 ho
    go_enter Tryd.func38, Tryd.ntmps38
    go_wp2_with fail
    refine HIX.out.mono ?_
    rintro e w1 ⟨rfl, hb⟩
    have HC : Hid (Chg (fun k => (Value.slice (some ⟨gb, 0, none⟩) l.length c).ownBlock = some k) w w1) := Lib.hid (Chg.of_below hb)
    have HO1 : Hid (OS w1 (.slice (some ⟨gb, 0, none⟩) l.length c) l) := Lib.hid (HO.out.chg (Chg.of_below (F := fun _ => False) hb) (fun _ _ e => e))
    clear hb
    have hi1 : ((i : Int) == -1) = false := by simp
    go_wp2
    go_loopw [5, 6] (fun a b wr => ∃ (p q : Nat) (ys : List BA), p < q ∧ q ≤ l.length ∧ a = .int .i64 p ∧ b = .int .i64 q ∧ Hid (ys.length = l.length) ∧ Hid (OS wr (.slice (some ⟨gb, 0, none⟩) l.length c) ys) ∧
      Hid (ys.take p = (l.take q).filter (fun s => !(g s)) ∧ ys.drop q = l.drop q) ∧ Hid (Chg (fun k => (Value.slice (some ⟨gb, 0, none⟩) l.length c).ownBlock = some k) w wr)) (fun _ b _ => l.length - (intOf b).toNat)
    case atStart => exact ⟨i, i + 1, l, by omega, by omega, rfl, by go_num, Lib.hid rfl, HO1, Lib.hid ⟨HST.out.symm, rfl⟩, HC⟩
    case round =>
      clear HO1 HC
      obtain ⟨p, q, ys, hpq, hq, rfl, rfl, hyl, hoy, hst, hch⟩ := hrel
      by_cases hql : q < l.length
      · have hyl2 := hyl.out
        have hyq : ys[q]'(by omega) = l[q] := by
          have e := congrArg (fun z => z[0]?) hst.out.2
          simp only [List.getElem?_drop, Nat.add_zero] at e
          rw [List.getElem?_eq_getElem (by omega), List.getElem?_eq_getElem hql] at e
          exact Option.some.inj e
        obtain ⟨cq, _⟩ := hoy.out.cell q (by omega)
        obtain ⟨cp, fp⟩ := hoy.out.cell p (by omega)
        rw [hyq] at cq
        have HCALL := Lib.hid (HG.out l[q] (List.getElem_mem hql) wr hch.out)
        have htk := filter_take g l q hql
        have HDR : Hid (ys.drop (q + 1) = l.drop (q + 1)) := Lib.hid (by
          have e := congrArg (List.drop 1) hst.out.2
          simpa [List.drop_drop] using e)
        generalize l[q] = s at *
        generalize ys[p]'(by omega) = sp at *
        have HTK := Lib.hid htk
        clear htk hyq hyl2
        cases hgs : g s with
        | true =>
          have h4 := HTK.out
          rw [hgs] at h4 HCALL
          have HX : Hid (ys.take p = (l.take (q + 1)).filter (fun s => !(g s)) ∧ ys.drop (q + 1) = l.drop (q + 1)) := Lib.hid ⟨by rw [h4]; simpa using hst.out.1, HDR.out⟩
          clear h4 hgs HTK cp fp
          go_wp2_with fail
          refine HCALL.out.mono ?_
          rintro e w2 ⟨rfl, hb2⟩
          have HC2 := Lib.hid (hch.out.trans (Chg.of_below (F := fun _ => False) hb2) (fun _ e => e.elim))
          have HO2 := Lib.hid (hoy.out.chg (Chg.of_below (F := fun _ => False) hb2) (fun _ _ e => e))
          clear hb2
          go_wp2
          go_roundw
          case rel => exact ⟨p, q + 1, ys, by omega, by omega, rfl, by go_num, hyl, HO2, HX, HC2⟩
          case measure => simp [intOf]; omega
        | false =>
          have h4 := HTK.out
          rw [hgs] at h4 HCALL
          have HX : Hid ((ys.set p s).take (p + 1) = (l.take (q + 1)).filter (fun s => !(g s)) ∧ (ys.set p s).drop (q + 1) = l.drop (q + 1)) := Lib.hid ⟨by
            rw [h4, ← hst.out.1]
            have hp : p < (ys.set p s).length := by rw [List.length_set, hyl.out]; omega
            rw [List.take_succ_eq_append_getElem hp, List.getElem_set_self, List.take_set_of_le (Nat.le_refl _)]
            rfl, by rw [List.drop_set_of_lt (by omega)]; exact HDR.out⟩
          clear h4 hgs HTK
          go_wp2_with fail
          refine HCALL.out.mono ?_
          rintro e w2 ⟨rfl, hb2⟩
          have HC2 := Lib.hid (hch.out.trans (Chg.of_below (F := fun _ => False) hb2) (fun _ e => e.elim))
          have ho2 := hoy.out.chg (Chg.of_below (F := fun _ => False) hb2) (fun _ _ e => e)
          have HO2 := Lib.hid ho2
          obtain ⟨cp2, fp2⟩ := ho2.cell p (by have := hyl.out; omega)
          generalize ys[p]'(by have := hyl.out; omega) = sp2 at *
          have HO3 := Lib.hid (ho2.stored p s)
          have HC3 := Lib.hid (HC2.out.set (o := p) (.string s) (show (Value.slice (some ⟨gb, 0, none⟩) l.length c).ownBlock = some gb from rfl))
          have HYL : Hid ((ys.set p s).length = l.length) := Lib.hid (by rw [List.length_set]; exact hyl.out)
          clear hb2 ho2 cp fp
          go_wp2
          go_roundw
          case rel => exact ⟨p + 1, q + 1, _, by omega, by omega, by go_num, by go_num, HYL, HO3, HX, HC3⟩
          case measure => simp [intOf]; omega
      · clear HG
        have hqe : q = l.length := by omega
        subst hqe
        go_wp2
        have ho1 := hoy.out
        have hyl1 := hyl.out
        have hcl : ∀ j, j < l.length - p → (wr.cell? ⟨gb, p + j, none⟩).isSome = true := fun j hj => by rw [(ho1.cell (p + j) (by omega)).1]; rfl
        have hfr : ∀ j, j < l.length - p → wr.frozen? ⟨gb, p + j, none⟩ = false := fun j hj => (ho1.cell (p + j) (by omega)).2
        rw [Lib.run_clear_slice wr 40 9 0 (.string ⟨#[]⟩) Tryd.underlying40 zero9 rfl rfl gb p (l.length - p) (c - p) (by omega) hcl hfr]
        obtain ⟨ys', h1, h2, h3⟩ := OS.cleared (l.length - p) p wr ys ho1 (by omega)
        have HOF : Hid (OS (wr.setCells gb p (List.replicate (l.length - p) (.string ⟨#[]⟩))) (.slice (some ⟨gb, 0, none⟩) p c) (l.filter (fun s => !(g s)))) := Lib.hid (by
          have := h1.taken p (by omega)
          rw [h2, hst.out.1, List.take_length] at this
          exact this)
        have HCF : Hid (Chg (fun k => (Value.slice (some ⟨gb, 0, none⟩) l.length c).ownBlock = some k) w (wr.setCells gb p (List.replicate (l.length - p) (.string ⟨#[]⟩)))) := Lib.hid (Chg.cells (F := fun k => (Value.slice (some ⟨gb, 0, none⟩) l.length c).ownBlock = some k) rfl _ _ _ _ hch.out)
        clear h1 h2 h3 hcl hfr ho1 hyl1
        generalize wr.setCells gb p (List.replicate (l.length - p) (.string ⟨#[]⟩)) = wf at *
        go_wp2
        go_ret
        exact ⟨_, rfl, HOF.out, rfl, HCF.out⟩
end Go.Proofs.YtefiliomfiomfadDoor
