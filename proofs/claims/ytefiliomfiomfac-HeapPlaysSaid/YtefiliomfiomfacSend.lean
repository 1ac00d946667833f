/- heap's Send. -/
import Derived.Test.YtefiliomfiomfacRSet
namespace Go.Proofs.Ytefiliomfiomfac
open Go.RowKit Go.Maps

theorem MS.put_ {D : DataW Unit} {f : Int → Option Int} (hm : IsMap D) (hD : ∀ a, (Lit.int .i64 a).wf = true → Maps.has D (.int .i64 a) = (f a).isSome ∧ D.atKey (.int .i64 a) (.lit (.int .i64 0)) = .lit (.int .i64 ((f a).getD 0))) (c t : Int) :
    ∀ a, (Lit.int .i64 a).wf = true → Maps.has (D.put (.int .i64 c) (.lit (.int .i64 t))) (.int .i64 a) = (if a = c then some t else f a).isSome ∧
      (D.put (.int .i64 c) (.lit (.int .i64 t))).atKey (.int .i64 a) (.lit (.int .i64 0)) = .lit (.int .i64 ((if a = c then some t else f a).getD 0)) := by
  intro s hs
  by_cases e : s = c
  · subst e
    rw [if_pos rfl, has_put_same (k := .int .i64 s) hm trivial, atKey_put_same (k := .int .i64 s) hm trivial]
    exact ⟨rfl, rfl⟩
  · have hne : (Lit.int .i64 s) ≠ .int .i64 c := fun h => e (by injection h)
    rw [if_neg e, has_put_other hne, atKey_put_other hne]
    exact hD s hs
theorem find_same {T : List Th} {a b : Int} {k : Nat} (h : find T a = some k) (h' : find T b = some k) : a = b := by
  obtain ⟨_, e⟩ := find_some h
  obtain ⟨_, e'⟩ := find_some h'
  omega
theorem sent_set (T : List Th) (k : Nat) (hk : k < T.length) (a y : Int) (hf : find T a = some k) (hy : y ≠ 0) (b : Int) : sentAt (T.set k { T[k] with sent := y }) b = if b = a then some y else sentAt T b := by
  unfold sentAt
  rw [find_set T k _ b (fun _ => rfl)]
  by_cases e : b = a
  · subst e
    rw [if_pos rfl, hf]
    simp only
    rw [List.getElem?_set_self hk]
    simp only
    rw [if_neg hy]
  · rw [if_neg e]
    cases hb : find T b with
    | none => rfl
    | some j =>
      have hj : k ≠ j := fun q => e (find_same (q ▸ hb) hf)
      simp only
      rw [List.getElem?_set_ne hj]
theorem sent_here {T : List Th} {k : Nat} (hk : k < T.length) {a : Int} (hf : find T a = some k) : (sentAt T a).getD 0 = T[k].sent := by
  unfold sentAt
  rw [hf]
  simp only
  rw [List.getElem?_eq_getElem hk]
  simp only
  by_cases e : T[k].sent = 0
  · rw [if_pos e, e]; rfl
  · rw [if_neg e]; rfl
set_option maxHeartbeats 2000000 in
theorem send31 {w : World} {F : Nat → Prop} {p : Value} {T : List Th} {most N : Nat} (h : HT w F p T most N) (a v : Int) (ha : (Lit.int .i64 a).wf = true) (hv : (Lit.int .i64 v).wf = true) (hN : N ≤ 1048576) :
    Calls Try.prog 31 #[p, .int .i64 a, .int .i64 v] w (SPost w F p most (N + 1) (sendF T a v)) := by
  have H := Lib.hid h.mono
  unfold sendF
  cases hf : find T a with
  | none =>
    have HC := Lib.hid (behind_absent h a ha hf)
    obtain ⟨ad, rfl⟩ := h.p
    clear h hf
    go_enter Try.func31, Try.ntmps31
    go_wp2_with fail
    refine HC.out.mono ?_
    rintro e w1 ⟨rfl, rfl⟩
    go_wp2_with fail
    refine (lost_ok ad w1).mono ?_
    rintro e w2 ⟨rfl, rfl⟩
    go_wp2
    go_ret
    exact ⟨rfl, H.out, Chg.refl _ _⟩
  | some k =>
    obtain ⟨hb, mb, ms, g, c, nb, ns, o, id, l, hk, rfl, hin, hgh, hFg, hFb, hFs, hFm, b1, b2, hw, hwk, hidk, ht, hpo, hao, hol, hu, hid, hcs, hhd, hc⟩ := behind_there h a k hf
    simp only
    rw [List.getElem?_eq_getElem hk]
    simp only
    have HC := Lib.hid hc
    have hsh := sent_here hk hf
    have c3 := hin.c3
    have hl := hin.sent.look a ha
    have e1 : (stOf T most nb ns).sent a = sentAt T a := rfl
    rw [e1, hsh] at hl
    have HSN : Hid (∀ y : Int, y ≠ 0 → ∀ b, sentAt (T.set k { T[k] with sent := y }) b = if b = a then some y else sentAt T b) := Lib.hid (fun y hy b => sent_set T k hk a y hf hy b)
    have HGD : Hid (∀ y, Good (T.set k { T[k] with sent := y }) most) := Lib.hid (fun y => h.1.set k _ (show T[k].id ≤ 65535 from h.1.2.2 _ (List.getElem_mem hk)) (by unfold used; rw [raw_set_sent T k hk y]))
    have HRW : Hid (∀ y, raw (T.set k { T[k] with sent := y }) = raw T) := Lib.hid (fun y => raw_set_sent T k hk y)
    have HFD : Hid (∀ y b, find (T.set k { T[k] with sent := y }) b = find T b) := Lib.hid (fun y b => find_set T k _ b (fun _ => rfl))
    have HIN := Lib.hid hin
    have HF0 := Lib.hid h.2.1
    have HFS := Lib.hid (And.intro hFg (And.intro hFb (And.intro hFs (And.intro hFm (And.intro b1 b2)))))
    have hl0 : l.length ≤ 4096 := by omega
    clear h hf hc hw ht hcs hhd hin e1 hsh hFg hFb hFs hFm hwk hidk hpo hgh hao
    generalize T[k].sent = z at *
    generalize l.length = n at *
    by_cases q1 : v < 1
    · rw [if_pos q1]
      go_enter Try.func31, Try.ntmps31
      go_wp2_with fail
      refine HC.out.mono ?_
      rintro e w1 ⟨sl, rfl, ⟨sa, sc, rfl, hnc, hsa⟩, rfl⟩
      clear hsa
      go_wp2
      go_ret
      exact ⟨rfl, H.out, Chg.refl _ _⟩
    · rw [if_neg q1]
      by_cases q2 : z = 0
      · subst q2
        rw [if_neg (fun h => h rfl)]
        obtain ⟨D, hown, hD⟩ := HIN.out.sent
        have HO := Lib.hid hown
        have HD := Lib.hid hD
        have hkey : Hid (keyOf Try.prog 2 (.int .i64 a) = some (.int .i64 a)) := keyOf_int_mk Try.underlying2 ha
        have HNS : Hid (ns ≤ N ∧ N ≤ 1048576) := Lib.hid ⟨b2, hN⟩
        clear hown hD ha
        go_enter Try.func31, Try.ntmps31
        go_wp2_with fail
        refine HC.out.mono ?_
        rintro e w1 ⟨sl, rfl, ⟨sa, sc, rfl, hnc, hsa⟩, rfl⟩
        clear hsa
        go_wp2_with (at_mapUpdate; refine wpList_mapUpdate_own _ rfl _ _ _ 61 rfl 2 2 keyed2 Try.underlying61 _ ms ns D rfl HO.out (by have := HNS.out; unfold maxLen; omega) _ _ _ rfl rfl hkey.out _ [] (plainElem_int Try.underlying2 hv) ?_)
        intro w2 hown2 hg2
        have hc2 : Chg (fun q => q = ms) w1 w2 := Chg.one hg2
        have HP2 : Hid (HT w2 F (.pointer (some ⟨hb, 0, none⟩)) (T.set k { T[k] with sent := v }) most (N + 1)) := Lib.hid (by
          obtain ⟨f1, f2, f3, f4, f5, f6⟩ := HFS.out
          refine ⟨HGD.out v, fun q hq => Nat.lt_of_lt_of_le (HF0.out q hq) hc2.size, hb, mb, ms, .slice (some ⟨g, 0, none⟩) (used T) c, nb, ns + 1, rfl, ⟨?_, ?_, ?_, ⟨_, hown2, ?_⟩, HIN.out.d1, HIN.out.d2, HIN.out.d3, HIN.out.d4, HIN.out.d5, HIN.out.d6⟩, f2, f4, f3, (fun q hq => by injection hq with hq; rw [← hq]; exact f1), by omega, by omega⟩
          · exact (hc2.block hb (Array.getElem?_eq_some_iff.1 HIN.out.cells).1 (fun e => HIN.out.d2 e)).trans HIN.out.cells
          · have := HIN.out.words.chg hc2 (fun q hq e => HIN.out.d6 (hq.trans (congrArg some e)))
            show OI w2 _ (raw _)
            rw [HRW.out v]
            exact this
          · have := HIN.out.begin_.chg hc2 (fun e => HIN.out.d3 e)
            obtain ⟨D', o', q'⟩ := this
            refine ⟨D', o', fun b hb' => ?_⟩
            rw [q' b hb']
            show _ = DataW.lit (.bool (find _ b).isSome)
            rw [HFD.out v b]
            rfl
          · intro b hb'
            have := MS.put_ HO.out.isMap HD.out a v b hb'
            have e2 : (stOf (T.set k { T[k] with sent := v }) most nb (ns + 1)).sent b = if b = a then some v else sentAt T b := HSN.out v (by omega) b
            rw [e2]
            exact this)
        have HC2 : Hid (Chg F w1 w2) := Lib.hid (hc2.mono (fun q e => by rw [e]; exact HFS.out.2.2.1))
        clear hown2 hg2 hc2
        go_wp2
        go_ret
        exact ⟨rfl, HP2.out, HC2.out⟩
      · rw [if_pos q2]
        have hd : (z != 0) = true := by simpa using q2
        clear q2
        go_enter Try.func31, Try.ntmps31
        go_wp2_with fail
        refine HC.out.mono ?_
        rintro e w1 ⟨sl, rfl, ⟨sa, sc, rfl, hnc, hsa⟩, rfl⟩
        clear hsa
        go_wp2
        go_ret
        exact ⟨rfl, H.out, Chg.refl _ _⟩
end Go.Proofs.Ytefiliomfiomfac
