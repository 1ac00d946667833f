/- The reference's heap in memory. -/
import Derived.Test.YtefiliomfiomfacKnown
import Derived.Test.YtefiliomfiomfacSet
namespace Go.Proofs.Ytefiliomfiomfac
open Go.RowKit Go.Maps

/-- A thing of the reference. -/
structure Rec where
  at_ : Int
  id : Nat
  v : Value
  sent : Int
  w : List Int
def thOf (r : Rec) : Th := ⟨r.id, r.w, r.sent⟩
def AtsFrom : Nat → List Rec → Prop
  | _, [] => True
  | s, r :: l => r.at_ = (s : Int) + 1 ∧ AtsFrom (s + 1 + r.w.length) l
def fIdx (a : Int) : List Rec → Nat → Int
  | [], _ => -1
  | r :: l, k => if r.at_ = a then (k : Int) else fIdx a l (k + 1)
theorem fIdx_cons (a : Int) (r : Rec) (l : List Rec) (k : Nat) : fIdx a (r :: l) k = if r.at_ = a then (k : Int) else fIdx a l (k + 1) := rfl
def optI (o : Option Nat) (k : Nat) : Int := match o with | none => -1 | some j => ((k + j : Nat) : Int)
theorem fIdx_find (a : Int) : ∀ (L : List Rec) (s k : Nat), AtsFrom s L → fIdx a L k = optI (findFrom s (L.map thOf) a) k
  | [], _, _, _ => rfl
  | r :: l, s, k, h => by
    obtain ⟨h1, h2⟩ := h
    rw [fIdx_cons, List.map_cons, findFrom, h1]
    by_cases e : a = (s : Int) + 1
    · rw [if_pos e, if_pos e.symm]; rfl
    · rw [if_neg e, if_neg (fun q => e q.symm), fIdx_find a l _ (k + 1) h2]
      show _ = optI (Option.map _ (findFrom (s + 1 + r.w.length) (l.map thOf) a)) k
      cases findFrom (s + 1 + r.w.length) (l.map thOf) a with
      | none => rfl
      | some j => simp only [Option.map_some, optI]; congr 1; omega
theorem AtsFrom.push : ∀ {L : List Rec} {s : Nat} (r : Rec), AtsFrom s L → r.at_ = (s : Int) + (used (L.map thOf) : Int) + 1 → AtsFrom s (L ++ [r])
  | [], s, r, _, h => ⟨by rw [h, List.map_nil, usedT_nil]; omega, trivial⟩
  | q :: l, s, r, h, hr => by
    refine ⟨h.1, AtsFrom.push r h.2 ?_⟩
    rw [hr, List.map_cons, usedT_cons]
    show (s : Int) + ((1 + q.w.length + used (l.map thOf) : Nat) : Int) + 1 = _
    push_cast
    omega
theorem AtsFrom.set : ∀ {L : List Rec} {s : Nat} (k : Nat) (r : Rec), AtsFrom s L → (∀ h : k < L.length, r.at_ = L[k].at_ ∧ r.w.length = L[k].w.length) → AtsFrom s (L.set k r)
  | [], _, _, _, _, _ => trivial
  | q :: l, s, 0, r, h, hr => by
    obtain ⟨e1, e2⟩ := hr (by simp)
    exact ⟨e1.trans h.1, by rw [show r.w.length = q.w.length from e2]; exact h.2⟩
  | q :: l, s, k + 1, r, h, hr => ⟨h.1, AtsFrom.set k r h.2 (fun hk => hr (by simpa using hk))⟩
def cells4 (r : Rec) : List Value := [.int .i64 r.at_, .int .i64 (r.id : Int), r.v, .int .i64 r.sent]
theorem cells4_at (L : List Rec) (i : Nat) (h : i < L.length) (j : Nat) (hj : j < 4) : (L.flatMap cells4)[i * 4 + j]? = (cells4 L[i])[j]? := by
  induction L generalizing i with
  | nil => simp at h
  | cons p r ih =>
    rw [List.flatMap_cons]
    cases i with
    | zero =>
      rw [List.getElem?_append_left (by show 0 * 4 + j < 4; omega)]
      simp
    | succ i =>
      have hl : (cells4 p).length = 4 := rfl
      rw [List.getElem?_append_right (by rw [hl]; omega), hl, show (i + 1) * 4 + j - 4 = i * 4 + j from by omega, ih i (by simpa using h)]
      rfl
/-- The slice v owns these records. -/
def OR (w : World) (v : Value) (L : List Rec) : Prop := w.ownsRow 0 70 4 v L.length (L.flatMap cells4)
theorem OR.lt {w : World} {v : Value} {L : List Rec} (h : OR w v L) : ∀ k, v.ownBlock = some k → k < w.heap.size := fun k hk => (World.ownsRow.lt h k hk).2
theorem OR.chg {F : Nat → Prop} {w w' : World} {v : Value} {L : List Rec} (h : OR w v L) (hc : Chg F w w') (hb : ∀ k, v.ownBlock = some k → ¬ F k) : OR w' v L := by
  have hlt := h.lt
  obtain ⟨h1, h2⟩ := h
  refine ⟨h1, ?_⟩
  rcases h2 with h2 | ⟨g, cap, cur, rfl, hb', hg, h3⟩
  · exact .inl h2
  · exact .inr ⟨g, cap, cur, rfl, hb', (hc.block g (hlt g rfl) (hb g rfl)).trans hg, h3⟩
/-- What one sees of a record. -/
def RecAt (w : World) (b o : Nat) (r : Rec) : Prop := w.cell? ⟨b, o, none⟩ = some (.int .i64 r.at_) ∧ w.cell? ⟨b, o + 1, none⟩ = some (.int .i64 (r.id : Int)) ∧ w.cell? ⟨b, o + 2, none⟩ = some r.v ∧ w.cell? ⟨b, o + 3, none⟩ = some (.int .i64 r.sent)
theorem OR.see {w : World} {v : Value} {L : List Rec} (h : OR w v L) : ∃ a c, v = .slice a L.length c ∧ (∀ i (hi : i < L.length), ∃ b, a = some ⟨b, 0, none⟩ ∧ v.ownBlock = some b ∧ (∀ o, w.frozen? ⟨b, o, none⟩ = false) ∧ RecAt w b (i * 4) L[i]) := by
  obtain ⟨h1, h2⟩ := h
  rcases h2 with ⟨rfl, hn⟩ | ⟨g, cap, cur, rfl, hb, hg, hnc, hcm, hcs, ht⟩
  · have : L = [] := List.eq_nil_of_length_eq_zero hn
    subst this
    exact ⟨none, 0, rfl, fun i hi => by simp at hi⟩
  · refine ⟨_, cap, rfl, fun i hi => ⟨g, rfl, rfl, fun o => by unfold World.frozen?; rw [hg]; simp, ?_⟩⟩
    have hc : ∀ j, j < 4 → w.cell? ⟨g, i * 4 + j, none⟩ = (cells4 L[i])[j]? := by
      intro j hj
      rw [cell_of_row w g (i * 4 + j) cur 70 (0, 0) hg, ← cells4_at L i hi j hj, ← ht]
      rw [List.getElem?_take, if_pos (by omega)]
      simp
    exact ⟨hc 0 (by omega), hc 1 (by omega), hc 2 (by omega), hc 3 (by omega)⟩
/-- The pointer p is the reference's heap that has these things; its memory lies in F. -/
def RT (w : World) (F : Nat → Prop) (p : Value) (L : List Rec) (most : Nat) : Prop :=
  Good (L.map thOf) most ∧ AtsFrom 0 L ∧ (∀ k, F k → k < w.heap.size) ∧ ∃ R v, p = .pointer (some ⟨R, 0, none⟩) ∧ w.heap[R]? = some (.cells #[.int .i64 (most : Int), v] 43 (0, 0)) ∧ OR w v L ∧ F R ∧ (∀ g, v.ownBlock = some g → F g ∧ g ≠ R) ∧
    (∀ i (h : i < L.length), OI w L[i].v L[i].w ∧ ∀ g, L[i].v.ownBlock = some g → F g ∧ g ≠ R ∧ v.ownBlock ≠ some g) ∧ (∀ i j (h : i < L.length) (h' : j < L.length), i ≠ j → ∀ g, L[i].v.ownBlock = some g → L[j].v.ownBlock ≠ some g)
theorem RT.chg {w w' : World} {F G : Nat → Prop} {p : Value} {L : List Rec} {most : Nat} (h : RT w F p L most) (hc : Chg G w w') (hd : ∀ k, F k → ¬ G k) : RT w' F p L most := by
  obtain ⟨hg, ha, hF, R, v, rfl, h1, h2, h3, h4, h5, h6⟩ := h
  exact ⟨hg, ha, fun k hk => Nat.lt_of_lt_of_le (hF k hk) hc.size, R, v, rfl, (hc.block R (hF R h3) (hd R h3)).trans h1, h2.chg hc (fun k hk => hd k (h4 k hk).1), h3, h4, fun i hi => ⟨(h5 i hi).1.chg hc (fun k hk => hd k ((h5 i hi).2 k hk).1), (h5 i hi).2⟩, h6⟩
theorem RT.below {w w' : World} {F : Nat → Prop} {p : Value} {L : List Rec} {most : Nat} (h : RT w F p L most) (hb : Below w.heap.size w w') : RT w' F p L most := h.chg (Chg.of_below (F := fun _ => False) hb) (fun _ _ e => e)
theorem RT.p {w : World} {F : Nat → Prop} {p : Value} {L : List Rec} {most : Nat} (h : RT w F p L most) : ∃ R, p = .pointer (some ⟨R, 0, none⟩) := by
  obtain ⟨_, _, _, R, v, rfl, _⟩ := h
  exact ⟨R, rfl⟩
/-- What one sees of it. -/
theorem RT.see {w : World} {F : Nat → Prop} {p : Value} {L : List Rec} {most : Nat} (h : RT w F p L most) : ∃ R a c, p = .pointer (some ⟨R, 0, none⟩) ∧ w.cell? ⟨R, 0, none⟩ = some (.int .i64 (most : Int)) ∧ w.cell? ⟨R, 1, none⟩ = some (.slice a L.length c) ∧
    (∀ i (hi : i < L.length), ∃ b, a = some ⟨b, 0, none⟩ ∧ RecAt w b (i * 4) L[i]) := by
  obtain ⟨_, _, _, R, v, rfl, h1, h2, _⟩ := h
  obtain ⟨a, c, rfl, h3⟩ := h2.see
  refine ⟨R, a, c, rfl, ?_, ?_, fun i hi => ?_⟩
  · unfold World.cell?; rw [h1]; rfl
  · unfold World.cell?; rw [h1]; rfl
  · obtain ⟨b, e, _, _, q⟩ := h3 i hi
    exact ⟨b, e, q⟩
theorem RT.ows {w : World} {F : Nat → Prop} {p : Value} {L : List Rec} {most : Nat} (h : RT w F p L most) (i : Nat) (hi : i < L.length) : OI w L[i].v L[i].w := by
  obtain ⟨_, _, _, R, v, rfl, _, _, _, _, h5, _⟩ := h
  exact (h5 i hi).1
end Go.Proofs.Ytefiliomfiomfac
