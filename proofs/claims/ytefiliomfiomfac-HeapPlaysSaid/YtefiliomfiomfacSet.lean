/- heap's Set and Send. -/
import Derived.Test.YtefiliomfiomfacKnown
namespace Go.Proofs.Ytefiliomfiomfac
open Go.RowKit Go.Maps

def setF (T : List Th) (a i v : Int) : Int × List Th :=
  match find T a with
  | none => (3, T)
  | some k => match T[k]? with
    | none => (3, T)
    | some t => if 0 ≤ i ∧ i < (t.w.length : Int) then (0, T.set k { t with w := t.w.set i.toNat v }) else (3, T)
theorem sentAt_set (T : List Th) (k : Nat) (hk : k < T.length) (t : Th) (hw : t.w.length = T[k].w.length) (hs : t.sent = T[k].sent) (a : Int) : sentAt (T.set k t) a = sentAt T a := by
  unfold sentAt
  rw [find_set T k t a (fun _ => hw)]
  cases find T a with
  | none => rfl
  | some j =>
    simp only
    by_cases e : k = j
    · subst e
      rw [List.getElem?_set_self hk, List.getElem?_eq_getElem hk]
      simp only [hs]
    · rw [List.getElem?_set_ne e]
theorem stOf_set (T : List Th) (most nb ns k : Nat) (hk : k < T.length) (i : Nat) (hi : i < T[k].w.length) (v : Int) :
    (⟨(raw T).set (pos T k + 1 + i) v, most, fun a => (find T a).isSome, sentAt T, nb, ns⟩ : HSt) = stOf (T.set k { T[k] with w := T[k].w.set i v }) most nb ns := by
  unfold stOf
  congr 1
  · exact (raw_set_word T k hk i hi v).symm
  · funext a
    rw [find_set T k _ a (fun _ => by simp)]
  · funext a
    exact (sentAt_set T k hk { T[k] with w := T[k].w.set i v } (by simp) rfl a).symm
theorem used_set (T : List Th) (k : Nat) (hk : k < T.length) (i : Nat) (hi : i < T[k].w.length) (v : Int) : used (T.set k { T[k] with w := T[k].w.set i v }) = used T := by
  unfold used
  rw [raw_set_word T k hk i hi v, List.length_set]
theorem Good.set {T : List Th} {most : Nat} (h : Good T most) (k : Nat) (t : Th) (ht : t.id ≤ 65535) (hu : used (T.set k t) = used T) : Good (T.set k t) most :=
  ⟨h.1, by rw [hu]; exact h.2.1, fun x hx => (List.mem_or_eq_of_mem_set hx).elim (h.2.2 x) (fun e => by rw [e]; exact ht)⟩

/-- What a call that writes into a thing leaves. -/
def SPost (w : World) (F : Nat → Prop) (p : Value) (most N : Nat) (r : Int × List Th) (e : Ending) (w' : World) : Prop :=
  e = .returned (.int .i64 r.1) ∧ HT w' F p r.2 most N ∧ Chg F w w'

set_option maxHeartbeats 1000000 in
theorem set14 {w : World} {F : Nat → Prop} {p : Value} {T : List Th} {most N : Nat} (h : HT w F p T most N) (a i v : Int) (ha : (Lit.int .i64 a).wf = true) :
    Calls Try.prog 14 #[p, .int .i64 a, .int .i64 i, .int .i64 v] w (SPost w F p most N (setF T a i v)) := by
  unfold setF
  cases hf : find T a with
  | none =>
    have HC := Lib.hid (behind_absent h a ha hf)
    have H := Lib.hid h
    obtain ⟨ad, rfl⟩ := h.p
    clear h hf
    go_enter Try.func14, Try.ntmps14
    go_wp2_with fail
    refine HC.out.mono ?_
    rintro e w1 ⟨rfl, rfl⟩
    go_wp2_with fail
    refine (lost_ok ad w1).mono ?_
    rintro e w2 ⟨rfl, rfl⟩
    go_wp2
    go_ret
    exact ⟨rfl, H.out, Chg.refl _ _⟩
  | some k =>
    obtain ⟨hb, mb, ms, g, c, nb, ns, o, id, l, hk, rfl, hin, hgh, hFg, hFb, hFs, hFm, b1, b2, hw, hwk, hidk, ht, hpo, rfl, hol, hu, hid, hcs, hhd, hc⟩ := behind_there h a k hf
    simp only
    rw [List.getElem?_eq_getElem hk]
    simp only
    rw [hwk]
    have HC := Lib.hid hc
    have H := Lib.hid h
    by_cases hi : 0 ≤ i ∧ i < (l.length : Int)
    · rw [if_pos hi]
      obtain ⟨j, rfl⟩ : ∃ j : Nat, i = (j : Int) := ⟨i.toNat, by omega⟩
      have hj : j < l.length := by omega
      obtain ⟨hcell, hfz⟩ := hcs j hj
      have hjk : j < T[k].w.length := by rw [hwk]; exact hj
      have HNEW : Hid (HT (w.setCell ⟨g, o + 1 + j, none⟩ (.int .i64 v)) F (.pointer (some ⟨hb, 0, none⟩)) (T.set k { T[k] with w := l.set (j : Int).toNat v }) most N) := by
        rw [Int.toNat_natCast, ← hwk]
        have hF := h.2.1
        refine ⟨h.1.set k _ (show T[k].id ≤ 65535 from h.1.2.2 _ (List.getElem_mem hk)) (used_set T k hk j hjk v), fun q hq => by have := hF q hq; simpa using this, hb, mb, ms, .slice (some ⟨g, 0, none⟩) (used T) c, nb, ns, rfl, ?_, hFb, hFm, hFs, (fun q hq => by have e := Option.some.inj hq; have e2 : g = q := e; rw [← e2]; exact hFg), b1, b2⟩
        rw [← stOf_set T most nb ns k hk j hjk v, hpo]
        have hc0 := Chg.setCell (F := fun q => q = g) (o := o + 1 + j) w (.int .i64 v) rfl
        exact ⟨(hc0.block hb (Array.getElem?_eq_some_iff.1 hin.cells).1 (fun e => hgh e.symm)).trans hin.cells, OI.stored hin.words (o + 1 + j) v, hin.begin_.chg hc0 (fun e => hin.d5 (by rw [e]; rfl)), hin.sent.chg hc0 (fun e => hin.d6 (by rw [e]; rfl)), hin.d1, hin.d2, hin.d3, hin.d4, hin.d5, hin.d6⟩
      have HCH : Hid (Chg F w (w.setCell ⟨g, o + 1 + j, none⟩ (.int .i64 v))) := Chg.setCell w _ hFg
      clear h hf hc hw ha ht hcs hhd hin hjk
      generalize T.set k { T[k] with w := l.set (j : Int).toNat v } = T2 at *
      generalize l[j] = u at *
      generalize l.length = n at *
      clear hwk hidk hpo
      go_enter Try.func14, Try.ntmps14
      go_wp2_with fail
      refine HC.out.mono ?_
      rintro e w1 ⟨sl, rfl, ⟨sa, sc, rfl, hnc, hsa⟩, rfl⟩
      obtain rfl := hsa (by omega)
      clear hsa
      go_wp2
      go_ret
      exact ⟨rfl, HNEW.out, HCH.out⟩
    · rw [if_neg hi]
      have hd : (decide (i < 0) || decide ((l.length : Int) ≤ i)) = true := by
        simp only [Bool.or_eq_true, decide_eq_true_eq]
        omega
      clear h hf hc hw ha ht hcs hhd hi hin hwk
      generalize l.length = n at *
      go_enter Try.func14, Try.ntmps14
      go_wp2_with fail
      refine HC.out.mono ?_
      rintro e w1 ⟨sl, rfl, ⟨sa, sc, rfl, hnc, hsa⟩, rfl⟩
      clear hsa
      go_wp2_with fail
      all_goals (
        refine (lost_ok _ w1).mono ?_
        rintro e w2 ⟨rfl, rfl⟩
        go_wp2
        go_ret
        exact ⟨rfl, H.out, Chg.refl _ _⟩)
end Go.Proofs.Ytefiliomfiomfac
