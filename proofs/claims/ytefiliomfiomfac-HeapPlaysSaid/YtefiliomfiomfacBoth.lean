/- Both heaps beside each other. -/
import Derived.Test.YtefiliomfiomfacRRaw
import Derived.Test.YtefiliomfiomfacRText
import Derived.Test.YtefiliomfiomfacWhere
namespace Go.Proofs.Ytefiliomfiomfac
open Go.RowKit Go.Maps

/-- The program's heap p has the things T1, the reference's q the things T2; block X has the cells cs; all memory of both lies behind B. -/
def B2 (B X : Nat) (cs : Array Value) (w : World) (p q : Value) (T1 T2 : List Th) (most N : Nat) : Prop :=
  B ≤ w.heap.size ∧ ∃ F G L, HT w F p T1 most N ∧ RT w G q L most ∧ L.map thOf = T2 ∧ (∀ k, F k → B ≤ k ∧ ¬ G k) ∧ (∀ k, G k → B ≤ k) ∧ w.heap[X]? = some (.cells cs 45 (0, 0)) ∧ ¬ F X ∧ ¬ G X
def B1 (B : Nat) (w : World) (p q : Value) (T1 T2 : List Th) (most N : Nat) : Prop :=
  B ≤ w.heap.size ∧ ∃ F G L, HT w F p T1 most N ∧ RT w G q L most ∧ L.map thOf = T2 ∧ (∀ k, F k → B ≤ k ∧ ¬ G k) ∧ (∀ k, G k → B ≤ k)
theorem B2.one {B X : Nat} {cs : Array Value} {w : World} {p q : Value} {T1 T2 : List Th} {most N : Nat} (h : B2 B X cs w p q T1 T2 most N) : B1 B w p q T1 T2 most N := by
  obtain ⟨h0, F, G, L, h1, h2, h3, h4, h5, _⟩ := h
  exact ⟨h0, F, G, L, h1, h2, h3, h4, h5⟩
theorem B1.box {B : Nat} {w : World} {p q : Value} {T1 T2 : List Th} {most N : Nat} (h : B1 B w p q T1 T2 most N) (cs : Array Value) : B2 B w.heap.size cs (w.alloc (.cells cs 45)) p q T1 T2 most N := by
  obtain ⟨h0, F, G, L, h1, h2, h3, h4, h5⟩ := h
  have hc := Chg.alloc (fun _ => False) w (.cells cs 45)
  refine ⟨Nat.le_trans h0 hc.size, F, G, L, h1.chg hc (fun _ _ e => e), h2.chg hc (fun _ _ e => e), h3, h4, h5, heap_alloc_new w _, fun e => ?_, fun e => ?_⟩
  · have := h1.2.1 _ e; omega
  · have := h2.2.2.1 _ e; omega
theorem B1.below {B : Nat} {w w' : World} {p q : Value} {T1 T2 : List Th} {most N : Nat} (h : B1 B w p q T1 T2 most N) (hb : Below w.heap.size w w') : B1 B w' p q T1 T2 most N := by
  obtain ⟨h0, F, G, L, h1, h2, h3, h4, h5⟩ := h
  have hc := Chg.of_below (F := fun _ => False) hb
  exact ⟨Nat.le_trans h0 hc.size, F, G, L, h1.chg hc (fun _ _ e => e), h2.chg hc (fun _ _ e => e), h3, h4, h5⟩
theorem B2.drew {B X : Nat} {cs : Array Value} {w : World} {p q : Value} {T1 T2 : List Th} {most N : Nat} (h : B2 B X cs w p q T1 T2 most N) : B2 B X cs w.drew p q T1 T2 most N := by
  obtain ⟨h0, F, G, L, h1, h2, h3, h4, h5, h6, h7⟩ := h
  have hc := (Chg.refl (fun _ => False) w).drew
  exact ⟨h0, F, G, L, h1.chg hc (fun _ _ e => e), h2.chg hc (fun _ _ e => e), h3, h4, h5, h6, h7⟩
theorem B2.cell {B X : Nat} {cs : Array Value} {w : World} {p q : Value} {T1 T2 : List Th} {most N : Nat} (h : B2 B X cs w p q T1 T2 most N) (j : Nat) : w.cell? ⟨X, j, none⟩ = cs[j]? := by
  obtain ⟨_, F, G, L, _, _, _, _, _, h6, _⟩ := h
  unfold World.cell?
  rw [h6]
  rfl
theorem B2.p {B X : Nat} {cs : Array Value} {w : World} {p q : Value} {T1 T2 : List Th} {most N : Nat} (h : B2 B X cs w p q T1 T2 most N) : (∃ ad, p = .pointer (some ad)) ∧ ∃ R, q = .pointer (some ⟨R, 0, none⟩) := by
  obtain ⟨_, F, G, L, h1, h2, _⟩ := h
  exact ⟨h1.p, h2.p⟩
theorem B1.p {B : Nat} {w : World} {p q : Value} {T1 T2 : List Th} {most N : Nat} (h : B1 B w p q T1 T2 most N) : (∃ ad, p = .pointer (some ad)) ∧ ∃ R, q = .pointer (some ⟨R, 0, none⟩) := by
  obtain ⟨_, F, G, L, h1, h2, _⟩ := h
  exact ⟨h1.p, h2.p⟩
/-- What a call leaves that answers v. -/
def BP (B X : Nat) (cs : Array Value) (w : World) (p q : Value) (T1 T2 : List Th) (most N : Nat) (v : Value) (e : Ending) (w' : World) : Prop := e = .returned v ∧ B2 B X cs w' p q T1 T2 most N ∧ Below B w w'
theorem B2.prog {B X : Nat} {cs : Array Value} {w w' : World} {F F' G : Nat → Prop} {L : List Rec} {p q : Value} {T1 T2 : List Th} {most N N' : Nat} (h0 : B ≤ w.heap.size) (h2 : RT w G q L most) (h3 : L.map thOf = T2) (h4 : ∀ k, F k → B ≤ k ∧ ¬ G k) (h5 : ∀ k, G k → B ≤ k) (h6 : w.heap[X]? = some (.cells cs 45 (0, 0))) (h7 : ¬ F X) (h8 : ¬ G X)
    (h1 : HT w' F' p T1 most N') (hc : Chg F w w') (hs : ∀ k, F' k → F k ∨ w.heap.size ≤ k) (hN : N' ≤ N) : B2 B X cs w' p q T1 T2 most N ∧ Below B w w' := by
  have hX := (Array.getElem?_eq_some_iff.1 h6).1
  have hG := h2.2.2.1
  have h1' : HT w' F' p T1 most N := by
    obtain ⟨a1, a2, hb, mb, ms, v, nb, ns, e, a3, a4, a5, a6, a7, b1, b2⟩ := h1
    exact ⟨a1, a2, hb, mb, ms, v, nb, ns, e, a3, a4, a5, a6, a7, by omega, by omega⟩
  refine ⟨⟨Nat.le_trans h0 hc.size, F', G, L, h1', h2.chg hc (fun k hk e => (h4 k e).2 hk), h3, fun k hk => ?_, h5, (hc.block X hX h7).trans h6, fun e => ?_, h8⟩, hc.below h0 (fun k hk => (h4 k hk).1)⟩
  · rcases hs k hk with e | e
    · exact h4 k e
    · exact ⟨by omega, fun hg => by have := hG k hg; omega⟩
  · rcases hs X e with e | e
    · exact h7 e
    · omega
theorem B2.ref {B X : Nat} {cs : Array Value} {w w' : World} {F G G' : Nat → Prop} {L : List Rec} {p q : Value} {T1 T2 : List Th} {most N : Nat} (h0 : B ≤ w.heap.size) (h1 : HT w F p T1 most N) (h4 : ∀ k, F k → B ≤ k ∧ ¬ G k) (h5 : ∀ k, G k → B ≤ k) (h6 : w.heap[X]? = some (.cells cs 45 (0, 0))) (h7 : ¬ F X) (h8 : ¬ G X)
    (h2 : RT w' G' q L most) (h3 : L.map thOf = T2) (hc : Chg G w w') (hs : ∀ k, G' k → G k ∨ w.heap.size ≤ k) : B2 B X cs w' p q T1 T2 most N ∧ Below B w w' := by
  have hX := (Array.getElem?_eq_some_iff.1 h6).1
  have hF := h1.2.1
  refine ⟨⟨Nat.le_trans h0 hc.size, F, G', L, h1.chg hc (fun k hk e => (h4 k hk).2 e), h2, h3, fun k hk => ⟨(h4 k hk).1, fun e => ?_⟩, fun k hk => ?_, (hc.block X hX h8).trans h6, h7, fun e => ?_⟩, hc.below h0 h5⟩
  · rcases hs k e with e | e
    · exact (h4 k hk).2 e
    · have := hF k hk; omega
  · rcases hs k hk with e | e
    · exact h5 k e
    · omega
  · rcases hs X e with e | e
    · exact h8 e
    · omega
section
variable {B X : Nat} {cs : Array Value} {w : World} {p q : Value} {T1 T2 : List Th} {most N : Nat}
theorem thingB (h : B2 B X cs w p q T1 T2 most N) (hN : N ≤ 1048576) (id n : Int) : Calls Try.prog 13 #[p, .int .i64 id, .int .i64 n] w (BP B X cs w p q (thingF T1 most id n).2.2 T2 most (N + 1) (.tuple #[.int .i64 (thingF T1 most id n).1, .int .i64 (thingF T1 most id n).2.1])) := by
  obtain ⟨h0, F, G, L, h1, h2, h3, h4, h5, h6, h7, h8⟩ := h
  refine (thing13 h1 id n hN).mono ?_
  rintro e w' ⟨he, F', a1, a2, a3⟩
  exact ⟨he, B2.prog h0 h2 h3 h4 h5 h6 h7 h8 a1 a2 a3 (Nat.le_refl _)⟩
theorem arrayB (h : B2 B X cs w p q T1 T2 most N) (hN : N ≤ 1048576) (id n : Int) : Calls Try.prog 15 #[p, .int .i64 id, .int .i64 n] w (BP B X cs w p q (arrayF T1 most id n).2.2 T2 most (N + 1) (.tuple #[.int .i64 (arrayF T1 most id n).1, .int .i64 (arrayF T1 most id n).2.1])) := by
  obtain ⟨h0, F, G, L, h1, h2, h3, h4, h5, h6, h7, h8⟩ := h
  refine (array15 h1 id n hN).mono ?_
  rintro e w' ⟨he, F', a1, a2, a3⟩
  exact ⟨he, B2.prog h0 h2 h3 h4 h5 h6 h7 h8 a1 a2 a3 (Nat.le_refl _)⟩
theorem textB (h : B2 B X cs w p q T1 T2 most N) (hN : N ≤ 1048576) (id : Int) (s : ByteArray) : Calls Try.prog 9 #[p, .int .i64 id, .string s] w (BP B X cs w p q (textF T1 most id s.data.toList).2.2 T2 most (N + 1) (.tuple #[.int .i64 (textF T1 most id s.data.toList).1, .int .i64 (textF T1 most id s.data.toList).2.1])) := by
  obtain ⟨h0, F, G, L, h1, h2, h3, h4, h5, h6, h7, h8⟩ := h
  refine (text9 h1 id s hN).mono ?_
  rintro e w' ⟨he, F', a1, a2, a3⟩
  exact ⟨he, B2.prog h0 h2 h3 h4 h5 h6 h7 h8 a1 a2 a3 (Nat.le_refl _)⟩
theorem setB (h : B2 B X cs w p q T1 T2 most N) (a i v : Int) (ha : (Lit.int .i64 a).wf = true) : Calls Try.prog 14 #[p, .int .i64 a, .int .i64 i, .int .i64 v] w (BP B X cs w p q (setF T1 a i v).2 T2 most (N + 1) (.int .i64 (setF T1 a i v).1)) := by
  obtain ⟨h0, F, G, L, h1, h2, h3, h4, h5, h6, h7, h8⟩ := h
  refine (set14 h1 a i v ha).mono ?_
  rintro e w' ⟨he, a1, a2⟩
  exact ⟨he, B2.prog h0 h2 h3 h4 h5 h6 h7 h8 a1 a2 (fun k hk => .inl hk) (by omega)⟩
theorem sendB (h : B2 B X cs w p q T1 T2 most N) (hN : N ≤ 1048576) (a v : Int) (ha : (Lit.int .i64 a).wf = true) (hv : (Lit.int .i64 v).wf = true) : Calls Try.prog 31 #[p, .int .i64 a, .int .i64 v] w (BP B X cs w p q (sendF T1 a v).2 T2 most (N + 1) (.int .i64 (sendF T1 a v).1)) := by
  obtain ⟨h0, F, G, L, h1, h2, h3, h4, h5, h6, h7, h8⟩ := h
  refine (send31 h1 a v ha hv hN).mono ?_
  rintro e w' ⟨he, a1, a2⟩
  exact ⟨he, B2.prog h0 h2 h3 h4 h5 h6 h7 h8 a1 a2 (fun k hk => .inl hk) (Nat.le_refl _)⟩
theorem thingRB (h : B2 B X cs w p q T1 T2 most N) (id n : Int) : Calls Try.prog 35 #[q, .int .i64 id, .int .i64 n] w (BP B X cs w p q T1 (thingF T2 most id n).2.2 most N (.tuple #[.int .i64 (thingF T2 most id n).1, .int .i64 (thingF T2 most id n).2.1])) := by
  obtain ⟨h0, F, G, L, h1, h2, h3, h4, h5, h6, h7, h8⟩ := h
  subst h3
  refine (thingR35 h2 id n).mono ?_
  rintro e w' ⟨he, G', L', a1, a2, a3, a4⟩
  exact ⟨he, B2.ref h0 h1 h4 h5 h6 h7 h8 a1 a2 a3 a4⟩
theorem arrayRB (h : B2 B X cs w p q T1 T2 most N) (id n : Int) : Calls Try.prog 36 #[q, .int .i64 id, .int .i64 n] w (BP B X cs w p q T1 (arrayF T2 most id n).2.2 most N (.tuple #[.int .i64 (arrayF T2 most id n).1, .int .i64 (arrayF T2 most id n).2.1])) := by
  obtain ⟨h0, F, G, L, h1, h2, h3, h4, h5, h6, h7, h8⟩ := h
  subst h3
  refine (arrayR36 h2 id n).mono ?_
  rintro e w' ⟨he, G', L', a1, a2, a3, a4⟩
  exact ⟨he, B2.ref h0 h1 h4 h5 h6 h7 h8 a1 a2 a3 a4⟩
theorem textRB (h : B2 B X cs w p q T1 T2 most N) (id : Int) (s : ByteArray) : Calls Try.prog 37 #[q, .int .i64 id, .string s] w (BP B X cs w p q T1 (textF T2 most id s.data.toList).2.2 most N (.tuple #[.int .i64 (textF T2 most id s.data.toList).1, .int .i64 (textF T2 most id s.data.toList).2.1])) := by
  obtain ⟨h0, F, G, L, h1, h2, h3, h4, h5, h6, h7, h8⟩ := h
  subst h3
  refine (textR37 h2 id s).mono ?_
  rintro e w' ⟨he, G', L', a1, a2, a3, a4⟩
  exact ⟨he, B2.ref h0 h1 h4 h5 h6 h7 h8 a1 a2 a3 a4⟩
theorem setRB (h : B2 B X cs w p q T1 T2 most N) (a i v : Int) : Calls Try.prog 38 #[q, .int .i64 a, .int .i64 i, .int .i64 v] w (BP B X cs w p q T1 (setF T2 a i v).2 most N (.int .i64 (setF T2 a i v).1)) := by
  obtain ⟨h0, F, G, L, h1, h2, h3, h4, h5, h6, h7, h8⟩ := h
  subst h3
  refine (setR38 h2 a i v).mono ?_
  rintro e w' ⟨he, L', a1, a2, a3⟩
  exact ⟨he, B2.ref h0 h1 h4 h5 h6 h7 h8 a1 a2 a3 (fun k hk => .inl hk)⟩
theorem sendRB (h : B2 B X cs w p q T1 T2 most N) (a v : Int) : Calls Try.prog 39 #[q, .int .i64 a, .int .i64 v] w (BP B X cs w p q T1 (sendF T2 a v).2 most N (.int .i64 (sendF T2 a v).1)) := by
  obtain ⟨h0, F, G, L, h1, h2, h3, h4, h5, h6, h7, h8⟩ := h
  subst h3
  refine (sendR39 h2 a v).mono ?_
  rintro e w' ⟨he, L', a1, a2, a3⟩
  exact ⟨he, B2.ref h0 h1 h4 h5 h6 h7 h8 a1 a2 a3 (fun k hk => .inl hk)⟩
end
end Go.Proofs.Ytefiliomfiomfac
