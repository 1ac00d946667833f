/- heap's calls that only look. -/
import Derived.Test.YtefiliomfiomfacThing
namespace Go.Proofs.Ytefiliomfiomfac
open Go.RowKit Go.Maps

def words (T : List Th) (a : Int) : Option (List Int) := (find T a).bind fun k => (T[k]?).map (·.w)
def sizeF (T : List Th) (a : Int) : Int × Int := match words T a with | none => (0, 3) | some l => ((l.length : Int), 0)
def getF (T : List Th) (a i : Int) : Int × Int := match words T a with | none => (0, 3) | some l => if 0 ≤ i ∧ i < (l.length : Int) then (l.getD i.toNat 0, 0) else (0, 3)
def lenF (T : List Th) (a : Int) : Int × Int := match words T a with | none => (0, 3) | some [] => (0, 5) | some (x :: _) => (x, 0)
def typeF (T : List Th) (a : Int) : Int × Int := match (find T a).bind fun k => (T[k]?).map (·.id) with | none => (0, 3) | some i => ((i : Int), 0)
def two (r : Int × Int) : Value := .tuple #[.int .i64 r.1, .int .i64 r.2]

theorem words_none {T : List Th} {a : Int} (h : find T a = none) : words T a = none := by unfold words; rw [h]; rfl
theorem words_some {T : List Th} {a : Int} {k : Nat} (h : find T a = some k) (hk : k < T.length) : words T a = some T[k].w := by
  unfold words
  rw [h]
  simp [hk]
theorem HT.p {w : World} {F : Nat → Prop} {p : Value} {T : List Th} {most N : Nat} (h : HT w F p T most N) : ∃ a, p = .pointer (some a) := by obtain ⟨_, _, hb', _, _, _, _, _, rfl, _⟩ := h; exact ⟨_, rfl⟩
theorem behind_absent {w : World} {F : Nat → Prop} {p : Value} {T : List Th} {most N : Nat} (h : HT w F p T most N) (a : Int) (ha : (Lit.int .i64 a).wf = true) (hf : find T a = none) :
    Calls Try.prog 33 #[p, .int .i64 a] w fun e w' => e = .returned (.tuple #[.slice none 0 0, .bool false]) ∧ w' = w := by
  obtain ⟨_, _, hb, mb, ms, v, nb, ns, rfl, hin, _⟩ := h
  exact behind_none a w hin ha (by show (find T a).isSome = false; rw [hf]; rfl)
theorem behind_there {w : World} {F : Nat → Prop} {p : Value} {T : List Th} {most N : Nat} (h : HT w F p T most N) (a : Int) (k : Nat) (hf : find T a = some k) :
    ∃ (hb mb ms g c nb ns o id : Nat) (l : List Int) (hk : k < T.length), p = .pointer (some ⟨hb, 0, none⟩) ∧ HeapIn w hb mb ms (.slice (some ⟨g, 0, none⟩) (used T) c) (stOf T most nb ns) ∧ g ≠ hb ∧ F g ∧ F hb ∧ F ms ∧ F mb ∧ nb ≤ N ∧ ns ≤ N ∧
      words T a = some l ∧ T[k].w = l ∧ T[k].id = id ∧ typeF T a = ((id : Int), 0) ∧ pos T k = o ∧ a = (o : Int) + 1 ∧ o + 1 + l.length ≤ used T ∧ used T ≤ 4096 ∧ id ≤ 65535 ∧
      (∀ i (hi : i < l.length), w.cell? ⟨g, o + 1 + i, none⟩ = some (.int .i64 l[i]) ∧ w.frozen? ⟨g, o + 1 + i, none⟩ = false) ∧
      w.cell? ⟨g, o, none⟩ = some (.int .i64 ((id : Int) * 65536 + (l.length : Int))) ∧
      Calls Try.prog 33 #[p, .int .i64 a] w fun e w' => ∃ sl, e = .returned (.tuple #[sl, .bool true]) ∧ SegAt sl g (o + 1) l.length ∧ w' = w := by
  obtain ⟨hk, ea⟩ := find_some hf
  obtain ⟨hg, hF, hb, mb, ms, v, nb, ns, rfl, hin, f1, f2, f3, f4, b1, b2⟩ := h
  have hpb := pos_bound T k hk
  have hlt := hg.w k hk
  have hm := hg.1
  have hu := hg.2.1
  have hw := hin.words
  have hsh : ∃ g c, v = .slice (some ⟨g, 0, none⟩) (used T) c := by
    rcases hw.2 with ⟨_, h0⟩ | ⟨g, cap, cur, e, _⟩
    · have : (stOf T most nb ns).ws.length = used T := rfl
      omega
    · exact ⟨g, cap, e⟩
  obtain ⟨g, c, rfl⟩ := hsh
  have hcell : ∀ j, j < used T → w.cell? ⟨g, j, none⟩ = ((raw T).map (Value.int .i64))[j]? := fun j hj => World.ownsRow.cellAt hw j (by show j < used T * 1; omega)
  refine ⟨hb, mb, ms, g, c, nb, ns, pos T k, T[k].id, T[k].w, hk, rfl, hin, (fun e => hin.d4 (congrArg some e)), f4 g rfl, f1, f3, f2, b1, b2, words_some hf hk, rfl, rfl, ?_, rfl, ea, hpb, by omega, hg.2.2 _ (List.getElem_mem hk), ?_, ?_, ?_⟩
  · unfold typeF
    rw [hf]
    simp [hk]
  · intro i hi
    refine ⟨?_, World.ownsRow.frozenAt hw _⟩
    rw [hcell _ (by omega), List.getElem?_map, raw_word T k hk i hi]
    rfl
  · rw [hcell _ (by omega), List.getElem?_map, raw_head T k hk]
    rfl
  · rw [ea]
    exact behind_some (S := stOf T most nb ns) (pos T k) T[k].w.length _ w hin (by show (find T _).isSome = true; rw [← ea, hf]; rfl) (raw_head T k hk) (tmod_head _ _ hlt) (by show _ ≤ used T; omega) (by show used T ≤ _; omega)

theorem size29 {w : World} {F : Nat → Prop} {p : Value} {T : List Th} {most N : Nat} (h : HT w F p T most N) (a : Int) (ha : (Lit.int .i64 a).wf = true) :
    Calls Try.prog 29 #[p, .int .i64 a] w fun e w' => e = .returned (two (sizeF T a)) ∧ w' = w := by
  unfold sizeF
  cases hf : find T a with
  | none =>
    rw [words_none hf]
    have HC := Lib.hid (behind_absent h a ha hf)
    obtain ⟨ad, rfl⟩ := h.p
    clear h hf
    go_enter Try.func29, Try.ntmps29
    go_wp2_with fail
    refine HC.out.mono ?_
    rintro e w1 ⟨rfl, rfl⟩
    go_wp2_with fail
    refine (lost_ok ad w1).mono ?_
    rintro e w2 ⟨rfl, rfl⟩
    go_wp2
    go_ret2
    exact ⟨rfl, rfl⟩
  | some k =>
    obtain ⟨hb, mb, ms, g, c, nb, ns, o, id, l, hk, rfl, _, _, _, _, _, _, _, _, hw, _, _, _, _, rfl, _, _, _, _, _, hc⟩ := behind_there h a k hf
    rw [hw]
    simp only
    have HC := Lib.hid hc
    clear h hf hc hw
    generalize l.length = n at HC ⊢
    go_enter Try.func29, Try.ntmps29
    go_wp2_with fail
    refine HC.out.mono ?_
    rintro e w1 ⟨sl, rfl, ⟨sa, sc, rfl, _, _⟩, rfl⟩
    go_wp2
    go_ret2
    exact ⟨rfl, rfl⟩
theorem type17 {w : World} {F : Nat → Prop} {p : Value} {T : List Th} {most N : Nat} (h : HT w F p T most N) (a : Int) (ha : (Lit.int .i64 a).wf = true) :
    Calls Try.prog 17 #[p, .int .i64 a] w fun e w' => e = .returned (two (typeF T a)) ∧ w' = w := by
  cases hf : find T a with
  | none =>
    have e : typeF T a = (0, 3) := by unfold typeF; rw [hf]; rfl
    rw [e]
    have HC := Lib.hid (behind_absent h a ha hf)
    obtain ⟨ad, rfl⟩ := h.p
    clear h hf e
    go_enter Try.func17, Try.ntmps17
    go_wp2_with fail
    refine HC.out.mono ?_
    rintro e w1 ⟨rfl, rfl⟩
    go_wp2_with fail
    refine (lost_ok ad w1).mono ?_
    rintro e w2 ⟨rfl, rfl⟩
    go_wp2
    go_ret2
    exact ⟨rfl, rfl⟩
  | some k =>
    obtain ⟨hb, mb, ms, g, c, nb, ns, o, id, l, hk, rfl, hin, _, _, _, _, _, _, _, hw, _, _, ht, _, rfl, hol, hu, hid, hcs, hhd, hc⟩ := behind_there h a k hf
    rw [ht]
    have HC := Lib.hid hc
    have c0 := hin.c0
    have hdv : ((id : Int) * 65536 + (l.length : Int)).tdiv 65536 = (id : Int) := tdiv_head _ _ (by omega)
    clear h hf hc hw ha ht hcs hin
    generalize l.length = n at *
    generalize used T = u at *
    generalize (id : Int) * 65536 + (n : Int) = x at *
    go_enter Try.func17, Try.ntmps17
    go_wp2_with fail
    refine HC.out.mono ?_
    rintro e w1 ⟨sl, rfl, ⟨sa, sc, rfl, _, _⟩, rfl⟩
    go_wp2
    go_ret2
    exact ⟨rfl, rfl⟩
theorem get16 {w : World} {F : Nat → Prop} {p : Value} {T : List Th} {most N : Nat} (h : HT w F p T most N) (a i : Int) (ha : (Lit.int .i64 a).wf = true) :
    Calls Try.prog 16 #[p, .int .i64 a, .int .i64 i] w fun e w' => e = .returned (two (getF T a i)) ∧ w' = w := by
  unfold getF
  cases hf : find T a with
  | none =>
    rw [words_none hf]
    have HC := Lib.hid (behind_absent h a ha hf)
    obtain ⟨ad, rfl⟩ := h.p
    clear h hf
    go_enter Try.func16, Try.ntmps16
    go_wp2_with fail
    refine HC.out.mono ?_
    rintro e w1 ⟨rfl, rfl⟩
    go_wp2_with fail
    refine (lost_ok ad w1).mono ?_
    rintro e w2 ⟨rfl, rfl⟩
    go_wp2
    go_ret2
    exact ⟨rfl, rfl⟩
  | some k =>
    obtain ⟨hb, mb, ms, g, c, nb, ns, o, id, l, hk, rfl, hin, _, _, _, _, _, _, _, hw, _, _, ht, _, rfl, hol, hu, hid, hcs, hhd, hc⟩ := behind_there h a k hf
    rw [hw]
    simp only
    have HC := Lib.hid hc
    by_cases hi : 0 ≤ i ∧ i < (l.length : Int)
    · rw [if_pos hi]
      obtain ⟨j, rfl⟩ : ∃ j : Nat, i = (j : Int) := ⟨i.toNat, by omega⟩
      have hj : j < l.length := by omega
      have hcell := (hcs j hj).1
      have hg : l.getD (j : Int).toNat 0 = l[j] := by simp [List.getD_eq_getElem?_getD, hj]
      rw [hg]
      clear h hf hc hw ha ht hcs hhd hg
      generalize l[j] = x at *
      generalize l.length = n at *
      go_enter Try.func16, Try.ntmps16
      go_wp2_with fail
      refine HC.out.mono ?_
      rintro e w1 ⟨sl, rfl, ⟨sa, sc, rfl, hnc, hsa⟩, rfl⟩
      obtain rfl := hsa (by omega)
      clear hsa
      go_wp2
      go_ret2
      exact ⟨rfl, rfl⟩
    · rw [if_neg hi]
      have hd : (decide (i < 0) || decide ((l.length : Int) ≤ i)) = true := by
        simp only [Bool.or_eq_true, decide_eq_true_eq]
        omega
      clear h hf hc hw ha ht hcs hhd hi
      generalize l.length = n at *
      go_enter Try.func16, Try.ntmps16
      go_wp2_with fail
      refine HC.out.mono ?_
      rintro e w1 ⟨sl, rfl, ⟨sa, sc, rfl, hnc, hsa⟩, rfl⟩
      clear hsa
      go_wp2_with fail
      all_goals (
        refine (lost_ok _ w1).mono ?_
        rintro e w2 ⟨rfl, rfl⟩
        go_wp2
        go_ret2
        exact ⟨rfl, rfl⟩)
theorem len11 {w : World} {F : Nat → Prop} {p : Value} {T : List Th} {most N : Nat} (h : HT w F p T most N) (a : Int) (ha : (Lit.int .i64 a).wf = true) :
    Calls Try.prog 11 #[p, .int .i64 a] w fun e w' => e = .returned (two (lenF T a)) ∧ w' = w := by
  unfold lenF
  cases hf : find T a with
  | none =>
    rw [words_none hf]
    have HC := Lib.hid (behind_absent h a ha hf)
    obtain ⟨ad, rfl⟩ := h.p
    clear h hf
    go_enter Try.func11, Try.ntmps11
    go_wp2_with fail
    refine HC.out.mono ?_
    rintro e w1 ⟨rfl, rfl⟩
    go_wp2_with fail
    refine (lost_ok ad w1).mono ?_
    rintro e w2 ⟨rfl, rfl⟩
    go_wp2
    go_ret2
    exact ⟨rfl, rfl⟩
  | some k =>
    obtain ⟨hb, mb, ms, g, c, nb, ns, o, id, l, hk, rfl, hin, _, _, _, _, _, _, _, hw, _, _, ht, _, rfl, hol, hu, hid, hcs, hhd, hc⟩ := behind_there h a k hf
    rw [hw]
    have HC := Lib.hid hc
    cases l with
    | nil =>
      clear h hf hc hw ha ht hcs hhd hin
      go_enter Try.func11, Try.ntmps11
      go_wp2_with fail
      refine HC.out.mono ?_
      rintro e w1 ⟨sl, rfl, ⟨sa, sc, rfl, hnc, hsa⟩, rfl⟩
      go_wp2
      go_ret2
      exact ⟨rfl, rfl⟩
    | cons x r =>
      have hcell := (hcs 0 (by simp)).1
      clear h hf hc hw ha ht hcs hhd hin
      simp only [List.getElem_cons_zero, Nat.add_zero] at hcell
      generalize hn : (x :: r).length = n at *
      have hn0 : n ≠ 0 := by rw [← hn]; simp
      have hz : (n : Int) ≠ 0 := by omega
      clear hn
      go_enter Try.func11, Try.ntmps11
      go_wp2_with fail
      refine HC.out.mono ?_
      rintro e w1 ⟨sl, rfl, ⟨sa, sc, rfl, hnc, hsa⟩, rfl⟩
      obtain rfl := hsa (by omega)
      clear hsa
      have hp0 : 0 < n := by omega
      go_wp2
      go_ret2
      exact ⟨rfl, rfl⟩
theorem sent30 {w : World} {F : Nat → Prop} {p : Value} {T : List Th} {most N : Nat} (h : HT w F p T most N) (a : Int) (ha : (Lit.int .i64 a).wf = true) :
    Calls Try.prog 30 #[p, .int .i64 a] w fun e w' => e = .returned (.tuple #[.int .i64 ((sentAt T a).getD 0), .bool (sentAt T a).isSome]) ∧ w' = w := by
  obtain ⟨_, _, hb, mb, ms, v, nb, ns, rfl, hin, _⟩ := h
  have c3 := hin.c3
  have hl := hin.sent.lookOk a ha
  have e1 : (stOf T most nb ns).sent a = sentAt T a := rfl
  rw [e1] at hl
  generalize (sentAt T a).getD 0 = x at *
  generalize (sentAt T a).isSome = y at *
  clear hin e1 ha
  go_enter Try.func30, Try.ntmps30
  go_wp2
  go_ret2
  exact ⟨rfl, rfl⟩
theorem cap23 {w : World} {F : Nat → Prop} {p : Value} {T : List Th} {most N : Nat} (h : HT w F p T most N) : Calls Try.prog 23 #[p] w fun e w' => e = .returned (.int .i64 most) ∧ w' = w := by
  obtain ⟨_, _, hb, mb, ms, v, nb, ns, rfl, hin, _⟩ := h
  exact cap_ok w hin
theorem used12 {w : World} {F : Nat → Prop} {p : Value} {T : List Th} {most N : Nat} (h : HT w F p T most N) : Calls Try.prog 12 #[p] w fun e w' => e = .returned (.int .i64 (used T)) ∧ w' = w := by
  obtain ⟨_, _, hb, mb, ms, v, nb, ns, rfl, hin, _⟩ := h
  exact used_ok w hin
end Go.Proofs.Ytefiliomfiomfac
