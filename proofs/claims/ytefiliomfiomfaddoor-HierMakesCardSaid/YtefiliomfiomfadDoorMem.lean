/- What a hierarchy is in memory: a struct that the call has made, its names, its map. -/
import Derived.Test.YtefiliomfiomfadDoorRows
import Derived.WalkKit
import Derived.WalkSpells
import Derived.WalkLawsBesides
import Derived.Handy
import Derived.Lib.Hide
import Derived.Maps.OwnSet
import Derived.Maps.StringElems
import Derived.Maps.AppendAt
import Derived.Laws.AppendOwnNone
import Derived.StringKeys
import Derived.BigQuiet
import Derived.StillTailTactics
namespace Go.Proofs.YtefiliomfiomfadDoor
open Go.RowKit Go.Maps

/-- What has turned lies in F or is new. -/
structure Chg (F : Nat → Prop) (w w' : World) : Prop where
  os : w'.os = w.os
  tape : w'.tape = w.tape
  output : w'.output = w.output
  size : w.heap.size ≤ w'.heap.size
  block : ∀ k, k < w.heap.size → ¬ F k → w'.heap[k]? = w.heap[k]?
theorem Chg.refl (F : Nat → Prop) (w : World) : Chg F w w := ⟨rfl, rfl, rfl, Nat.le_refl _, fun _ _ _ => rfl⟩
theorem Chg.trans {F G : Nat → Prop} {a b c : World} (h : Chg F a b) (k : Chg G b c) (hG : ∀ i, G i → F i ∨ a.heap.size ≤ i) : Chg F a c :=
  ⟨k.os.trans h.os, k.tape.trans h.tape, k.output.trans h.output, Nat.le_trans h.size k.size, fun i hi hF =>
    (k.block i (Nat.lt_of_lt_of_le hi h.size) fun hg => (hG i hg).elim hF (fun e => by omega)).trans (h.block i hi hF)⟩
theorem Chg.mono {F G : Nat → Prop} {a b : World} (h : Chg F a b) (hG : ∀ i, F i → G i) : Chg G a b :=
  ⟨h.os, h.tape, h.output, h.size, fun i hi hg => h.block i hi fun hf => hg (hG i hf)⟩
theorem Chg.drew {F : Nat → Prop} {a b : World} (h : Chg F a b) : Chg F a b.drew := ⟨h.os, h.tape, h.output, h.size, h.block⟩
theorem Chg.drewN {F : Nat → Prop} {a b : World} (h : Chg F a b) (n : Nat) : Chg F a (b.drewN n) := ⟨h.os, h.tape, h.output, h.size, h.block⟩
theorem Chg.grown {F : Nat → Prop} {a b : World} {row : Option Nat} (h : a.grownBy b row) (hF : ∀ k, row = some k → F k) : Chg F a b :=
  ⟨h.os, h.tape, h.output, h.size, fun i hi hf => h.block i hi fun e => hf (hF i e.symm)⟩
theorem Chg.alloc (F : Nat → Prop) (w : World) (o : Obj) : Chg F w (w.alloc o) := Chg.grown (World.grownBy_alloc w o none) (fun _ e => by cases e)
theorem Chg.al {F : Nat → Prop} {w a : World} (h : Chg F w a) (o : Obj) : Chg F w (a.alloc o) := h.trans (Chg.alloc (fun _ => False) a o) (fun _ e => e.elim)
theorem Chg.setCell {F : Nat → Prop} (w : World) {b o : Nat} (v : Value) (hF : F b) : Chg F w (w.setCell ⟨b, o, none⟩ v) :=
  ⟨rfl, rfl, rfl, by simp, fun k _ hk => heap_setCell_other w ⟨b, o, none⟩ k v (fun e => hk (by rw [e]; exact hF))⟩
theorem Chg.set {F : Nat → Prop} {w a : World} {hb o : Nat} (h : Chg F w a) (u : Value) (hF : F hb) : Chg F w (a.setCell ⟨hb, o, none⟩ u) :=
  h.trans (Chg.setCell (F := fun k => k = hb) a u rfl) (fun _ e => .inl (by rw [e]; exact hF))
theorem Chg.below {F : Nat → Prop} {a b : World} {B : Nat} (h : Chg F a b) (hB : B ≤ a.heap.size) (hF : ∀ k, F k → B ≤ k) : Below B a b :=
  ⟨h.os, h.tape, h.output, h.size, fun i hi => h.block i (by omega) fun hf => by have := hF i hf; omega⟩
theorem Chg.of_below {F : Nat → Prop} {a b : World} (h : Below a.heap.size a b) : Chg F a b := ⟨h.os, h.tape, h.output, h.size, fun i hi _ => h.block i hi⟩
theorem Chg.one {a b : World} {m : Nat} (h : a.grownBy b (some m)) : Chg (fun k => k = m) a b := Chg.grown h (fun _ e => (Option.some.inj e).symm)
theorem Chg.app {F : Nat → Prop} {w a b : World} {v : Value} (h : Chg F w a) (hg : a.grownBy b v.ownBlock) (hv : ∀ k, v.ownBlock = some k → F k ∨ w.heap.size ≤ k) : Chg F w b :=
  h.trans (Chg.grown (F := fun k => v.ownBlock = some k) hg (fun _ e => e)) hv

/-- The slice v owns the texts l. -/
def OS (w : World) (v : Value) (l : List ByteArray) : Prop := w.ownsRow 0 9 1 v l.length (l.map Value.string)
/-- In the world w the slice v reads as the texts l. -/
def RS (w : World) (v : Value) (l : List ByteArray) : Prop :=
  ∃ a c, v = .slice a l.length c ∧ l.length ≤ c ∧ (a = none → c = 0) ∧ (l ≠ [] → ∃ b o, a = some ⟨b, o, none⟩ ∧ b < w.heap.size ∧ ∀ i (h : i < l.length), w.cell? ⟨b, o + i, none⟩ = some (.string (l[i]'h)))
theorem OS.lt {w : World} {v : Value} {l : List ByteArray} (h : OS w v l) : ∀ k, v.ownBlock = some k → k < w.heap.size := fun k hk => (World.ownsRow.lt h k hk).2
theorem OS.chg {F : Nat → Prop} {w w' : World} {v : Value} {l : List ByteArray} (h : OS w v l) (hc : Chg F w w') (hb : ∀ k, v.ownBlock = some k → ¬ F k) : OS w' v l := by
  have hlt := h.lt
  obtain ⟨h1, h2⟩ := h
  refine ⟨h1, ?_⟩
  rcases h2 with h2 | ⟨g, cap, cur, rfl, hb0, hg, r⟩
  · exact .inl h2
  · exact .inr ⟨g, cap, cur, rfl, hb0, (hc.block g (hlt g rfl) (hb g rfl)).trans hg, r⟩
theorem OS.shape {w : World} {v : Value} {l : List ByteArray} (h : OS w v l) : ∃ a c, v = .slice a l.length c := by
  obtain ⟨h1, h2⟩ := h
  rcases h2 with ⟨rfl, h2⟩ | ⟨g, cap, cur, rfl, _⟩
  · exact ⟨none, 0, by rw [h2]⟩
  · exact ⟨_, cap, rfl⟩
theorem OS.shape3 {w : World} {v : Value} {l : List ByteArray} (h : OS w v l) : ∃ a n c, v = .slice a n c := by
  obtain ⟨a, c, e⟩ := h.shape
  exact ⟨a, _, c, e⟩
theorem OS.al {w : World} {v : Value} {l : List ByteArray} (h : OS w v l) (o : Obj) : OS (w.alloc o) v l := World.ownsRow.alloc h o
theorem OS.set {w : World} {v : Value} {l : List ByteArray} {hb o : Nat} (h : OS w v l) (u : Value) (hne : v.ownBlock ≠ some hb) : OS (w.setCell ⟨hb, o, none⟩ u) v l :=
  h.chg (Chg.setCell (F := fun k => k = hb) w u rfl) (fun k hk e => hne (by rw [hk, e]))
theorem RS.nil (w : World) : RS w (.slice none 0 0) [] := ⟨none, 0, rfl, Nat.le_refl _, fun _ => rfl, fun h => absurd rfl h⟩
theorem OS.nil (w : World) : OS w (.slice none 0 0) [] := World.ownsRow_nil _ _ _ _
theorem OS.rs {w : World} {v : Value} {l : List ByteArray} (h : OS w v l) : RS w v l := by
  have hlt := h.lt
  obtain ⟨h1, h2⟩ := h
  rcases h2 with ⟨rfl, hn⟩ | ⟨g, cap, cur, rfl, hb, hg, hnc, hcm, hcs, ht⟩
  · have : l = [] := List.eq_nil_of_length_eq_zero hn
    subst this
    exact RS.nil w
  · refine ⟨_, cap, rfl, hnc, (fun h => by cases h), fun _ => ⟨g, 0, rfl, hlt g rfl, fun i hi => ?_⟩⟩
    rw [cell_of_row w g (0 + i) cur 9 (0, 0) hg]
    have : (l.map Value.string)[i]? = some (.string l[i]) := by rw [List.getElem?_map, List.getElem?_eq_getElem hi]; rfl
    rw [← ht, List.getElem?_take, Nat.mul_one, if_pos hi] at this
    simpa using this
theorem RS.chg {F : Nat → Prop} {w w' : World} {v : Value} {l : List ByteArray} (h : RS w v l) (hc : Chg F w w') (hb : ∀ k, v.ownBlock = some k → ¬ F k) : RS w' v l := by
  obtain ⟨a, c, rfl, h2, h3, h4⟩ := h
  refine ⟨a, c, rfl, h2, h3, fun hl => ?_⟩
  obtain ⟨b, o, rfl, hlt, hcs⟩ := h4 hl
  refine ⟨b, o, rfl, Nat.lt_of_lt_of_le hlt hc.size, fun i hi => ?_⟩
  rw [← hcs i hi]
  exact World.cell?_of_block (hc.block b hlt (hb b rfl))
theorem grown_refl (w : World) (row : Option Nat) : w.grownBy w row := ⟨rfl, rfl, rfl, Nat.le_refl _, fun _ _ _ => rfl⟩

theorem info9 : (Tryd.prog.info? 9).map (fun i => (i.zero, i.size, i.bytes)) = some (some (.string ⟨#[]⟩), 1, 16) := by kernel_rfl
/-- 'append(out, s)', out the call's own. -/
theorem wpList_appS {w : World} {ops : Array Oper} {rest : List Oper} {o : Oper} {a : Act} {Q : Exit → Act → World → Prop} (hgd : o.guard = none) (s x : Operand)
    (ho : o.op = .call { callee := .builtin .append, args := #[s, x], argTypes := #[40, 40] })
    (v : Value) (l : List ByteArray) (g : Nat) (t : ByteArray) (hs : a.eval s = v) (hx : a.eval x = .slice (some ⟨g, 0, none⟩) 1 1) (hown : OS w v l) (hcell : w.cell? ⟨g, 0, none⟩ = some (.string t))
    (hlen : l.length ≤ 1048576)
    (h : ∀ v' w', OS w' v' (l ++ [t]) → w.grownBy w' v.ownBlock → (v'.ownBlock = v.ownBlock ∨ v'.ownBlock = some w.heap.size) → wpList Tryd.prog ops Q rest (a.put o.dst v') w') : wpList Tryd.prog ops Q (o :: rest) a w := by
  obtain ⟨i0, hi, hz0, hz1, hz2⟩ := info_parts info9
  refine wpList_append_own_at w hgd s x 40 ho 0 9 i0 (.string ⟨#[]⟩) 1 16 Tryd.underlying40 hi hz0 hz1 hz2 rfl (by decide) v l.length (l.map Value.string) hs hown ⟨g, 0, none⟩ 1 1 [.string t] hx rfl ?_ ?_ (by unfold maxLen; omega) (by omega) (Nat.zero_le _) ?_
  · intro j u hu
    cases j with
    | zero =>
      simp at hu
      subst hu
      exact hcell
    | succ j => simp at hu
  · intro u hu
    simp at hu
    subst hu
    rfl
  · intro v' w' hown' hg _ hloc
    refine h v' w' ?_ hg hloc
    unfold OS
    simpa using hown'

/-- The map in block b has these texts. -/
def MT (w : World) (b n : Nat) (f : ByteArray → Option ByteArray) : Prop :=
  ∃ D : DataW Unit, w.ownsMap Tryd.prog 9 (plainElem Tryd.prog 9) b n D ∧ ∀ s : ByteArray, s.size ≤ maxLen → Maps.has D (.string s.data.toList) = (f s).isSome ∧ D.atKey (.string s.data.toList) (.lit (.string [])) = .lit (.string ((f s).getD ⟨#[]⟩).data.toList)
theorem keyed9 : Keyed Tryd.prog 9 := string_keyed Tryd.underlying9
theorem zero9 (w : World) : (zeroValue 9).run Tryd.prog w = .ok (.string ⟨#[]⟩) w := by kernel_rfl
theorem ba_ext {a b : ByteArray} (h : a.data.toList = b.data.toList) : a = b := by
  obtain ⟨a⟩ := a
  obtain ⟨b⟩ := b
  simp at h
  rw [h]
theorem elem0 : plainElem (H := Unit) Tryd.prog 9 (.string ⟨#[]⟩) = some (.lit (.string []), []) := plainElem_string Tryd.underlying9 (by unfold maxLen; simp [ByteArray.size])
theorem MT.look {w : World} {b n : Nat} {f : ByteArray → Option ByteArray} (h : MT w b n f) (s : ByteArray) (hs : s.size ≤ maxLen) : (Instr.lookup 49 (.map (some b)) (.string s) false).run Tryd.prog w = .ok (.string ((f s).getD ⟨#[]⟩)) w := by
  obtain ⟨D, ho, hD⟩ := h
  obtain ⟨v, ps, hr, hv⟩ := ho.lookup keyed9 Tryd.underlying49 (zero9 w) elem0 (WideMaps.keyOf_string_mk Tryd.underlying9 hs)
  rw [(hD s hs).2] at hv
  obtain ⟨t, rfl, ht, _⟩ := plainElem_string_inv Tryd.underlying9 hv
  simp at ht
  rw [ba_ext (Array.toList_inj.2 ht.1)]
  exact hr
theorem MT.lookOk {w : World} {b n : Nat} {f : ByteArray → Option ByteArray} (h : MT w b n f) (s : ByteArray) (hs : s.size ≤ maxLen) : (Instr.lookup 49 (.map (some b)) (.string s) true).run Tryd.prog w = .ok (.tuple #[.string ((f s).getD ⟨#[]⟩), .bool (f s).isSome]) w := by
  obtain ⟨D, ho, hD⟩ := h
  obtain ⟨v, ps, hr, hv⟩ := ho.look_ok keyed9 Tryd.underlying49 (zero9 w) elem0 (WideMaps.keyOf_string_mk Tryd.underlying9 hs)
  rw [(hD s hs).2] at hv
  obtain ⟨t, rfl, ht, _⟩ := plainElem_string_inv Tryd.underlying9 hv
  simp at ht
  rw [ba_ext (Array.toList_inj.2 ht.1), ← (hD s hs).1]
  exact hr
theorem MT.new (w : World) : MT (w.alloc (.map #[] 0)) w.heap.size 0 (fun _ => none) := ⟨.map [], World.ownsMap_made _ _ _ _, fun _ _ => ⟨rfl, rfl⟩⟩
theorem MT.chg {F : Nat → Prop} {w w' : World} {b n : Nat} {f : ByteArray → Option ByteArray} (h : MT w b n f) (hc : Chg F w w') (hb : ¬ F b) : MT w' b n f := by
  obtain ⟨D, ho, hD⟩ := h
  refine ⟨D, ?_, hD⟩
  have hlt := ho.lt
  obtain ⟨es, clock, hb', r⟩ := ho
  exact ⟨es, clock, (hc.block b hlt hb).trans hb', r⟩
theorem MT.lt {w : World} {b n : Nat} {f : ByteArray → Option ByteArray} (h : MT w b n f) : b < w.heap.size := by obtain ⟨D, ho, _⟩ := h; exact ho.lt
theorem MT.put_ {D : DataW Unit} {f : ByteArray → Option ByteArray} (hm : IsMap D) (hD : ∀ s : ByteArray, s.size ≤ maxLen → Maps.has D (.string s.data.toList) = (f s).isSome ∧ D.atKey (.string s.data.toList) (.lit (.string [])) = .lit (.string ((f s).getD ⟨#[]⟩).data.toList)) (c t : ByteArray) :
    ∀ s : ByteArray, s.size ≤ maxLen → Maps.has (D.put (.string c.data.toList) (.lit (.string t.data.toList))) (.string s.data.toList) = (if s = c then some t else f s).isSome ∧
      (D.put (.string c.data.toList) (.lit (.string t.data.toList))).atKey (.string s.data.toList) (.lit (.string [])) = .lit (.string ((if s = c then some t else f s).getD ⟨#[]⟩).data.toList) := by
  intro s hs
  by_cases e : s = c
  · subst e
    rw [if_pos rfl, has_put_same (k := .string s.data.toList) hm trivial, atKey_put_same (k := .string s.data.toList) hm trivial]
    exact ⟨rfl, rfl⟩
  · have hne : (Lit.string s.data.toList) ≠ .string c.data.toList := fun h => e (ba_ext (by injection h))
    rw [if_neg e, has_put_other hne, atKey_put_other hne]
    exact hD s hs
end Go.Proofs.YtefiliomfiomfadDoor
