/- The reference's Set and Send. -/
import Derived.Test.YtefiliomfiomfacRMake
namespace Go.Proofs.Ytefiliomfiomfac
open Go.RowKit Go.Maps

def Rec.setW (r : Rec) (l : List Int) : Rec := ⟨r.at_, r.id, r.v, r.sent, l⟩
def Rec.setS (r : Rec) (x : Int) : Rec := ⟨r.at_, r.id, r.v, x, r.w⟩
/-- What a call that writes into a thing leaves. -/
def RSPost (w : World) (F : Nat → Prop) (p : Value) (most : Nat) (r : Int × List Th) (e : Ending) (w' : World) : Prop :=
  e = .returned (.int .i64 r.1) ∧ ∃ L', RT w' F p L' most ∧ L'.map thOf = r.2 ∧ Chg F w w'
theorem flat_set_same (L : List Rec) (k : Nat) (hk : k < L.length) (r : Rec) (h : cells4 r = cells4 L[k]) : (L.set k r).flatMap cells4 = L.flatMap cells4 := by
  rw [List.flatMap_def, List.flatMap_def, List.map_set, h]
  congr 1
  have : (L.map cells4)[k]'(by simpa using hk) = cells4 L[k] := by simp
  rw [← this, List.set_getElem_self]
theorem flat_set_sent (L : List Rec) : ∀ (k : Nat) (hk : k < L.length) (x : Int), (L.flatMap cells4).set (k * 4 + 3) (.int .i64 x) = (L.set k (L[k].setS x)).flatMap cells4 := by
  induction L with
  | nil => intro k hk; simp at hk
  | cons q l ih =>
    intro k hk x
    cases k with
    | zero => rfl
    | succ k =>
      have e := ih k (by simpa using hk) x
      have h4 : (cells4 q).length = 4 := rfl
      rw [List.flatMap_cons, List.set_append_right (s := cells4 q) _ _ (by rw [h4]; omega), h4, show (k + 1) * 4 + 3 - 4 = k * 4 + 3 from by omega, e]
      rfl
theorem th_set (L : List Rec) (k : Nat) (r : Rec) (t : Th) (h : thOf r = t) : (L.set k r).map thOf = (L.map thOf).set k t := by rw [List.map_set, h]
theorem RT.setw {w : World} {F : Nat → Prop} {p : Value} {L : List Rec} {most : Nat} (h : RT w F p L most) (k : Nat) (hk : k < L.length) (wb j n c : Nat) (hv : L[k].v = .slice (some ⟨wb, 0, none⟩) n c) (hj : j < L[k].w.length) (x : Int) :
    RT (w.setCell ⟨wb, j, none⟩ (.int .i64 x)) F p (L.set k (L[k].setW (L[k].w.set j x))) most ∧ Chg F w (w.setCell ⟨wb, j, none⟩ (.int .i64 x)) := by
  obtain ⟨hg, ha, hF, R, v, rfl, hb, hor, hFR, hvF, hws, hpw⟩ := h
  have hown : L[k].v.ownBlock = some wb := by rw [hv]; rfl
  obtain ⟨hFw, hwR, hvw⟩ := (hws k hk).2 wb hown
  have hset := Chg.setCell (F := fun q => q = wb) (o := j) w (.int .i64 x) rfl
  have hvs : ∀ i (hi : i < (L.set k (L[k].setW (L[k].w.set j x))).length) (hi' : i < L.length), (L.set k (L[k].setW (L[k].w.set j x)))[i].v = L[i].v := fun i hi hi' => by
    rw [List.getElem_set]
    split
    · next e => subst e; rfl
    · rfl
  have hkT : k < (L.map thOf).length := by simpa using hk
  have hTk : (L.map thOf)[k] = thOf L[k] := by simp
  refine ⟨⟨?_, ?_, fun q hq => by have := hF q hq; simpa using this, R, v, rfl, (hset.block R (hF R hFR) (fun e => hwR e.symm)).trans hb, ?_, hFR, hvF, ?_, ?_⟩, hset.mono (fun q e => by rw [e]; exact hFw)⟩
  · rw [th_set L k _ { (L.map thOf)[k] with w := (L.map thOf)[k].w.set j x } (by rw [hTk]; rfl)]
    refine hg.set k _ (show (L.map thOf)[k].id ≤ 65535 from hg.2.2 _ (List.getElem_mem hkT)) (used_set _ k hkT j (by rw [hTk]; exact hj) x)
  · exact AtsFrom.set k _ ha (fun _ => ⟨rfl, by show (L[k].w.set j x).length = _; simp⟩)
  · unfold OR
    rw [List.length_set, flat_set_same L k hk (L[k].setW (L[k].w.set j x)) rfl]
    exact hor.chg hset (fun q hq e => hvw (by rw [hq, e]))
  · intro i hi
    have hi' : i < L.length := by simpa using hi
    rw [hvs i hi hi']
    refine ⟨?_, (hws i hi').2⟩
    rw [List.getElem_set]
    by_cases e : k = i
    · subst e
      rw [if_pos rfl, hv]
      have o := (hws k hk).1
      rw [hv] at o
      exact OI.stored o j x
    · rw [if_neg e]
      exact (hws i hi').1.chg hset (fun q hq e' => hpw k i hk hi' e wb hown (by rw [hq, e']))
  · intro i j' hi hj' hij g hgk
    have hi' : i < L.length := by simpa using hi
    have hj2 : j' < L.length := by simpa using hj'
    rw [hvs i hi hi'] at hgk
    rw [hvs j' hj' hj2]
    exact hpw i j' hi' hj2 hij g hgk
theorem RT.sets {w : World} {F : Nat → Prop} {p : Value} {L : List Rec} {most : Nat} (h : RT w F p L most) (k : Nat) (hk : k < L.length) (R b c : Nat) (hp : p = .pointer (some ⟨R, 0, none⟩)) (hcell : w.cell? ⟨R, 1, none⟩ = some (.slice (some ⟨b, 0, none⟩) L.length c)) (x : Int) :
    RT (w.setCell ⟨b, k * 4 + 3, none⟩ (.int .i64 x)) F p (L.set k (L[k].setS x)) most ∧ Chg F w (w.setCell ⟨b, k * 4 + 3, none⟩ (.int .i64 x)) ∧ w.frozen? ⟨b, k * 4 + 3, none⟩ = false := by
  obtain ⟨hg, ha, hF, R', v, e, hb, hor, hFR, hvF, hws, hpw⟩ := h
  rw [hp] at e
  injection e with e
  injection e with e
  injection e with e
  subst e
  have hvv : v = .slice (some ⟨b, 0, none⟩) L.length c := by
    unfold World.cell? at hcell
    rw [hb] at hcell
    exact Option.some.inj hcell
  subst hvv
  obtain ⟨hFb, hbR⟩ := hvF b rfl
  have hset := Chg.setCell (F := fun q => q = b) (o := k * 4 + 3) w (.int .i64 x) rfl
  have hvs : ∀ i (hi : i < (L.set k (L[k].setS x)).length) (hi' : i < L.length), (L.set k (L[k].setS x))[i].v = L[i].v ∧ (L.set k (L[k].setS x))[i].w = L[i].w := fun i hi hi' => by
    rw [List.getElem_set]
    split
    · next e => subst e; exact ⟨rfl, rfl⟩
    · exact ⟨rfl, rfl⟩
  have hkT : k < (L.map thOf).length := by simpa using hk
  have hTk : (L.map thOf)[k] = thOf L[k] := by simp
  have hst := World.ownsRow.stored hor (k * 4 + 3) (.int .i64 x)
  refine ⟨⟨?_, ?_, fun q hq => by have := hF q hq; simpa using this, R, _, hp, (hset.block R (hF R hFR) (fun e => hbR e.symm)).trans hb, ?_, hFR, hvF, ?_, ?_⟩, hset.mono (fun q e => by rw [e]; exact hFb), World.ownsRow.frozenAt hor _⟩
  · rw [th_set L k _ { (L.map thOf)[k] with sent := x } (by rw [hTk]; rfl)]
    refine hg.set k _ (show (L.map thOf)[k].id ≤ 65535 from hg.2.2 _ (List.getElem_mem hkT)) ?_
    unfold used
    rw [raw_set_sent _ k hkT x]
  · exact AtsFrom.set k _ ha (fun _ => ⟨rfl, rfl⟩)
  · unfold OR
    rw [List.length_set, ← flat_set_sent L k hk x]
    exact hst.1
  · intro i hi
    have hi' : i < L.length := by simpa using hi
    rw [(hvs i hi hi').1, (hvs i hi hi').2]
    refine ⟨(hws i hi').1.chg hset (fun q hq e' => ((hws i hi').2 q hq).2.2 (by rw [e']; rfl)), (hws i hi').2⟩
  · intro i j' hi hj' hij g hgk
    have hi' : i < L.length := by simpa using hi
    have hj2 : j' < L.length := by simpa using hj'
    rw [(hvs i hi hi').1] at hgk
    rw [(hvs j' hj' hj2).1]
    exact hpw i j' hi' hj2 hij g hgk
theorem find_T {L : List Rec} {k : Nat} (hk : k < L.length) : (L.map thOf)[k]? = some (thOf L[k]) := by rw [List.getElem?_map, List.getElem?_eq_getElem hk]; rfl
theorem RSPost.same {w : World} {F : Nat → Prop} {p : Value} {L : List Rec} {most : Nat} {x : Int} {e : Ending} (h : RT w F p L most) (he : e = .returned (.int .i64 x)) : RSPost w F p most (x, L.map thOf) e w := ⟨he, L, h, rfl, Chg.refl _ _⟩
set_option maxHeartbeats 1000000 in
theorem setR38 {w : World} {F : Nat → Prop} {p : Value} {L : List Rec} {most : Nat} (h : RT w F p L most) (x i y : Int) :
    Calls Try.prog 38 #[p, .int .i64 x, .int .i64 i, .int .i64 y] w (RSPost w F p most (setF (L.map thOf) x i y)) := by
  have HF := Lib.hid (find40 h x)
  have H := Lib.hid h
  unfold setF
  cases hf : find (L.map thOf) x with
  | none =>
    rw [FI_none hf] at HF
    obtain ⟨R, rfl⟩ := h.p
    clear h hf
    go_enter Try.func38, Try.ntmps38
    go_wp2_with fail
    refine HF.out.mono ?_
    rintro e w1 ⟨rfl, rfl⟩
    go_wp2
    go_ret
    exact RSPost.same H.out rfl
  | some k =>
    obtain ⟨hk, hw⟩ := find_rec hf
    simp only
    rw [find_T hk]
    rw [FI_some hf] at HF
    have how := (h.ows k hk)
    have hol := how.ri
    obtain ⟨hl, hu⟩ := h.len
    obtain ⟨R, a, c, rfl, c0, c1, hs⟩ := h.see
    obtain ⟨b, rfl, _, _, y2, _⟩ := hs k hk
    obtain ⟨wa, wc, hv⟩ := how.shape
    rw [hv] at y2 hol
    obtain ⟨_, _, hcl⟩ := hol.at_
    have hlw : (thOf L[k]).w = L[k].w := rfl
    simp only
    rw [hlw]
    by_cases hneg : i < 0
    · rw [if_neg (by omega)]
      clear h hf hs c0 hw hv how hol hcl
      generalize L[k].w.length = n at *
      go_enter Try.func38, Try.ntmps38
      go_wp2_with fail
      refine HF.out.mono ?_
      rintro e w1 ⟨rfl, rfl⟩
      go_wp2
      go_ret
      exact RSPost.same H.out rfl
    · by_cases hge : (L[k].w.length : Int) ≤ i
      · rw [if_neg (by omega)]
        clear h hf hs c0 hw hv how hol hcl
        generalize L[k].w.length = n at *
        go_enter Try.func38, Try.ntmps38
        go_wp2_with fail
        refine HF.out.mono ?_
        rintro e w1 ⟨rfl, rfl⟩
        go_wp2
        go_ret
        exact RSPost.same H.out rfl
      · rw [if_pos (by omega)]
        obtain ⟨j, rfl⟩ : ∃ j : Nat, i = (j : Int) := ⟨i.toNat, by omega⟩
        have hj : j < L[k].w.length := by omega
        have hsh : ∃ wb, wa = some ⟨wb, 0, none⟩ := by
          rcases how.2 with ⟨e, hn⟩ | ⟨g, cap, cur, e, _⟩
          · omega
          · rw [hv] at e
            injection e with e
            exact ⟨g, e⟩
        obtain ⟨wb, rfl⟩ := hsh
        obtain ⟨wb', wo', hwa, hcz⟩ := hcl (by intro e; rw [e] at hj; simp at hj)
        injection hwa with hwa
        injection hwa with e1 e2
        subst e1 e2
        have hz := hcz j hj
        rw [Nat.zero_add] at hz
        obtain ⟨r1, r2⟩ := h.setw k hk wb j _ wc hv hj y
        have hfz : w.frozen? ⟨wb, j, none⟩ = false := by
          have o := how
          rw [hv] at o
          exact World.ownsRow.frozenAt o j
        have HPO : Hid (RSPost w F (.pointer (some ⟨R, 0, none⟩)) most (0, (L.map thOf).set k { thOf L[k] with w := L[k].w.set (j : Int).toNat y }) (.returned (.int .i64 0)) (w.setCell ⟨wb, j, none⟩ (.int .i64 y))) :=
          Lib.hid ⟨rfl, _, r1, th_set L k _ _ (by rw [Int.toNat_natCast]; rfl), r2⟩
        clear h hf hs c0 hw hv how hol hcl hcz r1 r2 hneg hge
        generalize L[k].w[j] = z at *
        generalize L[k].w.length = n at *
        generalize (L.map thOf).set k { thOf L[k] with w := L[k].w.set (j : Int).toNat y } = T2 at *
        go_enter Try.func38, Try.ntmps38
        go_wp2_with fail
        refine HF.out.mono ?_
        rintro e w1 ⟨rfl, rfl⟩
        go_wp2
        go_ret
        exact HPO.out
def sendF (T : List Th) (a v : Int) : Int × List Th :=
  match find T a with
  | none => (3, T)
  | some k => match T[k]? with
    | none => (3, T)
    | some t => if v < 1 then (2, T) else if t.sent ≠ 0 then (22, T) else (0, T.set k { t with sent := v })
set_option maxHeartbeats 1000000 in
theorem sendR39 {w : World} {F : Nat → Prop} {p : Value} {L : List Rec} {most : Nat} (h : RT w F p L most) (x y : Int) :
    Calls Try.prog 39 #[p, .int .i64 x, .int .i64 y] w (RSPost w F p most (sendF (L.map thOf) x y)) := by
  have HF := Lib.hid (find40 h x)
  have H := Lib.hid h
  unfold sendF
  cases hf : find (L.map thOf) x with
  | none =>
    rw [FI_none hf] at HF
    obtain ⟨R, rfl⟩ := h.p
    clear h hf
    go_enter Try.func39, Try.ntmps39
    go_wp2_with fail
    refine HF.out.mono ?_
    rintro e w1 ⟨rfl, rfl⟩
    go_wp2
    go_ret
    exact RSPost.same H.out rfl
  | some k =>
    obtain ⟨hk, hw⟩ := find_rec hf
    simp only
    rw [find_T hk]
    rw [FI_some hf] at HF
    obtain ⟨hl, hu⟩ := h.len
    obtain ⟨R, a, c, rfl, c0, c1, hs⟩ := h.see
    obtain ⟨b, rfl, _, _, _, y3⟩ := hs k hk
    simp only
    have hsn : (thOf L[k]).sent = L[k].sent := rfl
    rw [hsn]
    obtain ⟨r1, r2, hfz⟩ := h.sets k hk R b c rfl c1 y
    have HPO : Hid (RSPost w F (.pointer (some ⟨R, 0, none⟩)) most (0, (L.map thOf).set k { thOf L[k] with sent := y }) (.returned (.int .i64 0)) (w.setCell ⟨b, k * 4 + 3, none⟩ (.int .i64 y))) :=
      Lib.hid ⟨rfl, _, r1, th_set L k _ _ rfl, r2⟩
    clear h hf hs c0 hw r1 r2
    generalize (L.map thOf).set k { thOf L[k] with sent := y } = T2 at *
    generalize L[k].sent = z at *
    by_cases q1 : y < 1
    · rw [if_pos q1]
      go_enter Try.func39, Try.ntmps39
      go_wp2_with fail
      refine HF.out.mono ?_
      rintro e w1 ⟨rfl, rfl⟩
      go_wp2
      go_ret
      exact RSPost.same H.out rfl
    · rw [if_neg q1]
      by_cases q2 : z = 0
      · subst q2
        rw [if_neg (fun h => h rfl)]
        go_enter Try.func39, Try.ntmps39
        go_wp2_with fail
        refine HF.out.mono ?_
        rintro e w1 ⟨rfl, rfl⟩
        go_wp2
        go_ret
        exact HPO.out
      · rw [if_pos q2]
        have hd : (z != 0) = true := by simpa using q2
        clear q2
        go_enter Try.func39, Try.ntmps39
        go_wp2_with fail
        refine HF.out.mono ?_
        rintro e w1 ⟨rfl, rfl⟩
        go_wp2
        go_ret
        exact RSPost.same H.out rfl
end Go.Proofs.Ytefiliomfiomfac
