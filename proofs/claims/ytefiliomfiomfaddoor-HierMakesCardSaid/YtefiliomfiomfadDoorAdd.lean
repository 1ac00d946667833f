/- hier's Has, Super, add. -/
import Derived.Test.YtefiliomfiomfadDoorMem
namespace Go.Proofs.YtefiliomfiomfadDoor
open Go.RowKit Go.Maps

abbrev BA := ByteArray
/-- The class above one. -/
def look (H : List (BA × BA)) (c : BA) : Option BA := (H.find? (fun p => decide (p.1 = c))).map (·.2)
theorem look_nil (c : BA) : look [] c = none := rfl
theorem look_append (H : List (BA × BA)) (p : BA × BA) (c : BA) : look (H ++ [p]) c = match look H c with | some s => some s | none => if p.1 = c then some p.2 else none := by
  unfold look
  rw [List.find?_append]
  cases h : H.find? (fun p => decide (p.1 = c)) with
  | some x => rfl
  | none =>
    by_cases e : p.1 = c
    · simp [e]
    · simp [e]
theorem look_push {H : List (BA × BA)} {p : BA × BA} (h : look H p.1 = none) (c : BA) : look (H ++ [p]) c = if c = p.1 then some p.2 else look H c := by
  rw [look_append]
  by_cases e : c = p.1
  · subst e
    rw [h, if_pos rfl]
  · rw [if_neg e]
    cases look H c with
    | some s => rfl
    | none =>
      have : ¬ p.1 = c := fun h => e h.symm
      simp [this]

/-- The block hb is a hierarchy of these classes. -/
structure HIn (w : World) (hb mb n : Nat) (v : Value) (H : List (BA × BA)) : Prop where
  cells : w.heap[hb]? = some (.cells #[v, .map (some mb)] 51 (0, 0))
  names : OS w v (H.map (·.1))
  above : MT w mb n (look H)
  d1 : hb ≠ mb
  d4 : v.ownBlock ≠ some hb
  d5 : v.ownBlock ≠ some mb
theorem HIn.chg {F : Nat → Prop} {w w' : World} {hb mb n : Nat} {v : Value} {H : List (BA × BA)} (h : HIn w hb mb n v H) (hc : Chg F w w') (h1 : ¬ F hb) (h2 : ¬ F mb) (h4 : ∀ k, v.ownBlock = some k → ¬ F k) : HIn w' hb mb n v H :=
  ⟨(hc.block hb (Array.getElem?_eq_some_iff.1 h.cells).1 h1).trans h.cells, h.names.chg hc h4, h.above.chg hc h2, h.d1, h.d4, h.d5⟩
theorem HIn.c0 {w : World} {hb mb n : Nat} {v : Value} {H : List (BA × BA)} (h : HIn w hb mb n v H) : w.cell? ⟨hb, 0, none⟩ = some v := by unfold World.cell?; rw [h.cells]; rfl
theorem HIn.c1 {w : World} {hb mb n : Nat} {v : Value} {H : List (BA × BA)} (h : HIn w hb mb n v H) : w.cell? ⟨hb, 1, none⟩ = some (.map (some mb)) := by unfold World.cell?; rw [h.cells]; rfl
theorem HIn.fz {w : World} {hb mb n : Nat} {v : Value} {H : List (BA × BA)} (h : HIn w hb mb n v H) (o : Nat) : w.frozen? ⟨hb, o, none⟩ = false := by unfold World.frozen?; rw [h.cells]; simp

/-- The pointer p is a hierarchy of these classes; its memory lies in F; so many stores at most in its map. -/
def HP (w : World) (F : Nat → Prop) (p : Value) (H : List (BA × BA)) (N : Nat) : Prop :=
  (∀ k, F k → k < w.heap.size) ∧ ∃ hb mb v n, p = .pointer (some ⟨hb, 0, none⟩) ∧ HIn w hb mb n v H ∧ F hb ∧ F mb ∧ (∀ g, v.ownBlock = some g → F g) ∧ n ≤ N
theorem HP.chg {w w' : World} {F G : Nat → Prop} {p : Value} {H : List (BA × BA)} {N : Nat} (h : HP w F p H N) (hc : Chg G w w') (hd : ∀ k, F k → ¬ G k) : HP w' F p H N := by
  obtain ⟨hF, hb, mb, v, n, rfl, hi, f1, f2, f4, b1⟩ := h
  exact ⟨fun k hk => Nat.lt_of_lt_of_le (hF k hk) hc.size, hb, mb, v, n, rfl, hi.chg hc (hd _ f1) (hd _ f2) (fun k hk => hd _ (f4 k hk)), f1, f2, f4, b1⟩
theorem HP.p {w : World} {F : Nat → Prop} {p : Value} {H : List (BA × BA)} {N : Nat} (h : HP w F p H N) : ∃ hb, p = .pointer (some ⟨hb, 0, none⟩) := by obtain ⟨_, hb, _, _, _, rfl, _⟩ := h; exact ⟨_, rfl⟩
theorem HP.mono {w : World} {F : Nat → Prop} {p : Value} {H : List (BA × BA)} {N M : Nat} (h : HP w F p H N) (hm : N ≤ M) : HP w F p H M := by
  obtain ⟨hF, hb, mb, v, n, e, hi, f1, f2, f4, b1⟩ := h
  exact ⟨hF, hb, mb, v, n, e, hi, f1, f2, f4, by omega⟩

theorem has_nil (c : BA) (w : World) : Calls Tryd.prog 19 #[.pointer none, .string c] w fun e w' => e = .returned (.bool false) ∧ w' = w := by
  go_enter Tryd.func19, Tryd.ntmps19
  go_wp2
  go_ret
  exact ⟨rfl, rfl⟩
theorem has19 {w : World} {F : Nat → Prop} {p : Value} {H : List (BA × BA)} {N : Nat} (h : HP w F p H N) (c : BA) (hc : c.size ≤ maxLen) : Calls Tryd.prog 19 #[p, .string c] w fun e w' => e = .returned (.bool (look H c).isSome) ∧ w' = w := by
  obtain ⟨_, hb, mb, v, n, rfl, hi, _⟩ := h
  have c1 := hi.c1
  have hl := hi.above.lookOk c hc
  generalize (look H c).getD ⟨#[]⟩ = x at *
  generalize (look H c).isSome = y at *
  clear hi hc
  go_enter Tryd.func19, Tryd.ntmps19
  go_wp2
  go_ret
  exact ⟨rfl, rfl⟩
def obj : BA := ⟨#[79, 98, 106, 101, 99, 116]⟩
def superF (H : List (BA × BA)) (c : BA) : BA × Bool := match look H c with | none => (⟨#[]⟩, false) | some s => (s, decide (c ≠ obj))
theorem super_nil (c : BA) (w : World) : Calls Tryd.prog 14 #[.pointer none, .string c] w fun e w' => e = .returned (.tuple #[.string ⟨#[]⟩, .bool false]) ∧ w' = w := by
  go_enter Tryd.func14, Tryd.ntmps14
  go_wp2_with fail
  refine (has_nil c w).mono ?_
  rintro e w1 ⟨rfl, rfl⟩
  go_wp2
  go_ret2
  exact ⟨rfl, rfl⟩
theorem eqS (a b : BA) : a.toList = b.toList ↔ a = b := by
  rw [ByteArray.toList_eq, ByteArray.toList_eq]
  exact ⟨ba_ext, fun h => by rw [h]⟩
theorem beqS (a b : BA) : (a.toList == b.toList) = decide (a = b) := by
  by_cases h : a = b
  · subst h; simp
  · rw [decide_eq_false h]
    exact beq_eq_false_iff_ne.2 (fun e => h ((eqS a b).1 e))
theorem obj_list : obj.toList = [79, 98, 106, 101, 99, 116] := ByteArray.toList_mk [79, 98, 106, 101, 99, 116]
theorem isObj (c : BA) : (c.toList == [79, 98, 106, 101, 99, 116]) = decide (c = obj) := by rw [← obj_list, beqS]
theorem super14 {w : World} {F : Nat → Prop} {p : Value} {H : List (BA × BA)} {N : Nat} (h : HP w F p H N) (c : BA) (hc : c.size ≤ maxLen) : Calls Tryd.prog 14 #[p, .string c] w fun e w' => e = .returned (.tuple #[.string (superF H c).1, .bool (superF H c).2]) ∧ w' = w := by
  have HH := Lib.hid (has19 h c hc)
  obtain ⟨_, hb, mb, v, n, rfl, hi, _⟩ := h
  have c1 := hi.c1
  have hl := hi.above.look c hc
  unfold superF
  cases hk : look H c with
  | none =>
    rw [hk] at HH hl
    simp only [Option.isSome_none] at HH
    clear hi hc hl hk
    go_enter Tryd.func14, Tryd.ntmps14
    go_wp2_with fail
    refine HH.out.mono ?_
    rintro e w1 ⟨rfl, rfl⟩
    go_wp2
    go_ret2
    exact ⟨rfl, rfl⟩
  | some s =>
    rw [hk] at HH hl
    simp only [Option.isSome_some, Option.getD_some] at HH hl
    clear hi hc hk
    go_enter Tryd.func14, Tryd.ntmps14
    go_wp2_with fail
    refine HH.out.mono ?_
    rintro e w1 ⟨rfl, rfl⟩
    go_wp2
    go_ret2
    refine ⟨show Ending.returned (.tuple #[.string s, .bool (!(c.toList == [79, 98, 106, 101, 99, 116]))]) = _ from ?_, rfl⟩
    rw [isObj]
    simp
/-- What add leaves. -/
def addF (H : List (BA × BA)) (c s : BA) : Bool × List (BA × BA) := if (look H c).isSome then (false, H) else (true, H ++ [(c, s)])
def APost (w : World) (F : Nat → Prop) (p : Value) (N : Nat) (r : Bool × List (BA × BA)) (e : Ending) (w' : World) : Prop :=
  e = .returned (.bool r.1) ∧ ∃ F', HP w' F' p r.2 (N + 1) ∧ Chg F w w' ∧ ∀ k, F' k → F k ∨ w.heap.size ≤ k
theorem cells_c {w : World} {hb : Nat} {v x : Value} (h : w.heap[hb]? = some (.cells #[v, x] 51 (0, 0))) : w.cell? ⟨hb, 0, none⟩ = some v ∧ w.cell? ⟨hb, 1, none⟩ = some x ∧ ∀ o, w.frozen? ⟨hb, o, none⟩ = false :=
  ⟨by unfold World.cell?; rw [h]; rfl, by unfold World.cell?; rw [h]; rfl, fun o => by unfold World.frozen?; rw [h]; simp⟩
theorem cells_store {w : World} {hb : Nat} {v v' x : Value} (h : w.heap[hb]? = some (.cells #[v, x] 51 (0, 0))) : (w.setCell ⟨hb, 0, none⟩ v').heap[hb]? = some (.cells #[v', x] 51 (0, 0)) := by
  rw [heap_setCell_same w hb 0 _ 51 v' h]
  rfl
set_option maxRecDepth 100000 in
set_option maxHeartbeats 1000000 in
theorem add25 {w : World} {F : Nat → Prop} {p : Value} {H : List (BA × BA)} {N : Nat} (h : HP w F p H N) (c s : BA) (hc : c.size ≤ maxLen) (hs : s.size ≤ maxLen) (hN : N ≤ 1048576) (hH : H.length ≤ 1048576) :
    Calls Tryd.prog 25 #[p, .string c, .string s] w (APost w F p N (addF H c s)) := by
  have h0 := Lib.hid h
  obtain ⟨hF, hb, mb, v, n, rfl, hi, f1, f2, f4, b1⟩ := h
  have c1 := hi.c1
  have hl := hi.above.lookOk c hc
  unfold addF
  cases hk : look H c with
  | some t =>
    rw [hk] at hl
    simp only [Option.isSome_some, if_true, Option.getD_some] at hl ⊢
    clear hi hc hk hs hF f1 f2 f4
    go_enter Tryd.func25, Tryd.ntmps25
    go_wp2
    go_ret
    exact ⟨rfl, F, h0.out.mono (by omega), Chg.refl _ _, fun k hk => .inl hk⟩
  | none =>
    rw [hk] at hl
    simp only [Option.isSome_none, Option.getD_none] at hl ⊢
    have HI := Lib.hid hi
    have HK := Lib.hid hk
    have HS := Lib.hid hs
    have HC := Lib.hid hc
    have HN := Lib.hid hN
    have HL := Lib.hid hH
    have HFS := Lib.hid (And.intro hF (And.intro f1 (And.intro f2 f4)))
    have c0 := hi.c0
    have fz := hi.fz 0
    obtain ⟨a, nn, cc, rfl⟩ := hi.names.shape3
    clear hi hk hs hc hN hH hF f1 f2 f4
    go_enter Tryd.func25, Tryd.ntmps25
    go_wp2_with (at_builtin; refine wpList_appS rfl (.tmp 23) (.tmp 25) rfl (.slice a nn cc) (H.map (·.1)) w.heap.size c rfl rfl (HI.out.names.al _) (by rw [World.cell?_alloc_mark]; rfl) ?hlen ?_)
    case hlen => have := HL.out; simpa using this
    intro v2 w2 ho2 hg2 hl2
    obtain ⟨a2, n2, k2, rfl⟩ := ho2.shape3
    have hb0 := (Array.getElem?_eq_some_iff.1 HI.out.cells).1
    have hc1 : Chg (fun k => k = hb ∨ k = mb ∨ (Value.slice a nn cc).ownBlock = some k) w w2 := ((Chg.refl _ w).al _).app hg2 (fun k e => .inl (.inr (.inr e)))
    have hB2 : w2.heap[hb]? = some (.cells #[.slice a nn cc, .map (some mb)] 51 (0, 0)) := (hg2.block hb (by simp; omega) (fun e => HI.out.d4 e.symm)).trans ((heap_alloc_old w _ hb0).trans HI.out.cells)
    obtain ⟨q0, q1, q2⟩ := cells_c hB2
    have qf := q2 0
    have hd2 : ∀ k, (Value.slice a2 n2 k2).ownBlock = some k → (Value.slice a nn cc).ownBlock = some k ∨ w.heap.size ≤ k := fun k hk => by
      rcases hl2 with e | e
      · exact .inl (e.symm.trans hk)
      · have e1 := Option.some.inj (e.symm.trans hk)
        have e2 : (w.alloc (.cells #[.string c] 9)).heap.size = w.heap.size + 1 := by simp
        exact .inr (by omega)
    have hmb : mb < w.heap.size := HI.out.above.lt
    have hne2 : (Value.slice a2 n2 k2).ownBlock ≠ some hb := fun e => (hd2 hb e).elim HI.out.d4 (fun h => by omega)
    have hnm2 : (Value.slice a2 n2 k2).ownBlock ≠ some mb := fun e => (hd2 mb e).elim HI.out.d5 (fun h => by omega)
    have HB3 := Lib.hid (cells_store (v' := .slice a2 n2 k2) hB2)
    have HC3 := Lib.hid (hc1.set (.slice a2 n2 k2) (o := 0) (Or.inl rfl))
    have HO3 := Lib.hid (ho2.set (.slice a2 n2 k2) (o := 0) hne2)
    have hcM : Chg (fun k => k = hb ∨ (Value.slice a nn cc).ownBlock = some k) w (w2.setCell ⟨hb, 0, none⟩ (.slice a2 n2 k2)) := (((Chg.refl _ w).al _).app hg2 (fun k e => .inl (.inr e))).set _ (.inl rfl)
    obtain ⟨D, hown, hD⟩ := HI.out.above.chg hcM (fun e => e.elim (fun e => HI.out.d1 e.symm) HI.out.d5)
    have HM3 := Lib.hid hown
    have HD3 := Lib.hid hD
    have HD := Lib.hid hd2
    have HNE := Lib.hid (And.intro hne2 hnm2)
    have HSZ := Lib.hid (And.intro hb0 hmb)
    clear ho2 hg2 hl2 hc1 hB2 hd2 hne2 hnm2 hcM hown hD hb0 hmb q1 q2 c0 fz c1 hl
    obtain ⟨x0, x1, _⟩ := cells_c HB3.out
    have hkey : Hid (keyOf Tryd.prog 9 (.string c) = some (.string c.data.toList)) := WideMaps.keyOf_string_mk Tryd.underlying9 HC.out
    go_wp2_with (at_mapUpdate; refine wpList_mapUpdate_own _ rfl _ _ _ 49 rfl 9 9 keyed9 Tryd.underlying49 _ mb n D rfl HM3.out (by have := HN.out; unfold maxLen; omega) _ _ _ rfl rfl hkey.out _ [] (plainElem_string Tryd.underlying9 HS.out) ?_)
    intro w4 hown4 hg4
    have hHIN : HIn w4 hb mb (n + 1) (.slice a2 n2 k2) (H ++ [(c, s)]) := by
      refine ⟨(hg4.block hb (Array.getElem?_eq_some_iff.1 HB3.out).1 (fun e => HI.out.d1 (Option.some.inj e))).trans HB3.out, ?_, ⟨_, hown4, ?_⟩, HI.out.d1, HNE.out.1, HNE.out.2⟩
      · have := HO3.out.chg (Chg.one hg4) (fun k hk e => HNE.out.2 (hk.trans (congrArg some e)))
        simpa using this
      · have := MT.put_ HM3.out.isMap HD3.out c s
        intro x hx
        rw [look_push (p := (c, s)) HK.out]
        exact this x hx
    have HIN := Lib.hid hHIN
    have HCH : Hid (Chg F w w4) := by
      obtain ⟨hF, f1, f2, f4⟩ := HFS.out
      refine (HC3.out.trans (Chg.one hg4) (fun i e => .inl (.inr (.inl e)))).mono ?_
      rintro i (e | e | e)
      · rw [e]; exact f1
      · rw [e]; exact f2
      · exact f4 i e
    clear hHIN hown4 hg4
    go_wp2
    go_ret
    obtain ⟨hF, f1, f2, f4⟩ := HFS.out
    refine ⟨rfl, fun k => F k ∨ (w.heap.size ≤ k ∧ k < w4.heap.size), ⟨?_, hb, mb, _, n + 1, rfl, HIN.out, .inl f1, .inl f2, ?_, by omega⟩, HCH.out, ?_⟩
    · rintro k (hk | hk)
      · exact Nat.lt_of_lt_of_le (hF k hk) HCH.out.size
      · exact hk.2
    · intro g hg
      rcases HD.out g hg with e | e
      · exact .inl (f4 g e)
      · exact .inr ⟨e, HIN.out.names.lt g hg⟩
    · rintro k (hk | hk)
      · exact .inl hk
      · exact .inr hk.1
end Go.Proofs.YtefiliomfiomfadDoor
