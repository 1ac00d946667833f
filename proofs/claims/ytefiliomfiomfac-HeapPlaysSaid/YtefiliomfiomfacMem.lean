/- What a heap of words is in memory: a struct that the call has made, its words, its two maps. -/
import Derived.Test.YtefiliomfiomfacRows
import Derived.WalkKit
import Derived.WalkSpells
import Derived.WalkLawsBesides
import Derived.Handy
import Derived.Lib.Hide
import Derived.Maps.OwnSet
import Derived.Laws.AppendOwnNone
import Derived.Lib.AppendZerosOnto
import Derived.BigQuiet
import Derived.StillTailTactics
namespace Go.Proofs.Ytefiliomfiomfac
open Go.RowKit Go.Maps

/-- What has turned lies in F or is new. -/
structure Chg (F : Nat → Prop) (w w' : World) : Prop where
  os : w'.os = w.os
  tape : w'.tape = w.tape
  output : w'.output = w.output
  size : w.heap.size ≤ w'.heap.size
  block : ∀ k, k < w.heap.size → ¬ F k → w'.heap[k]? = w.heap[k]?
theorem Chg.refl (F : Nat → Prop) (w : World) : Chg F w w := ⟨rfl, rfl, rfl, Nat.le_refl _, fun _ _ _ => rfl⟩
theorem Chg.trans {F G : Nat → Prop} {a b c : World} (h : Chg F a b) (k : Chg G b c) (hG : ∀ i, G i → F i ∨ a.heap.size ≤ i) : Chg F a c :=
  ⟨k.os.trans h.os, k.tape.trans h.tape, k.output.trans h.output, Nat.le_trans h.size k.size, fun i hi hF =>
    (k.block i (Nat.lt_of_lt_of_le hi h.size) fun hg => (hG i hg).elim hF (fun e => by omega)).trans (h.block i hi hF)⟩
theorem Chg.mono {F G : Nat → Prop} {a b : World} (h : Chg F a b) (hG : ∀ i, F i → G i) : Chg G a b :=
  ⟨h.os, h.tape, h.output, h.size, fun i hi hg => h.block i hi fun hf => hg (hG i hf)⟩
theorem Chg.drew {F : Nat → Prop} {a b : World} (h : Chg F a b) : Chg F a b.drew := ⟨h.os, h.tape, h.output, h.size, h.block⟩
theorem Chg.grown {F : Nat → Prop} {a b : World} {row : Option Nat} (h : a.grownBy b row) (hF : ∀ k, row = some k → F k) : Chg F a b :=
  ⟨h.os, h.tape, h.output, h.size, fun i hi hf => h.block i hi fun e => hf (hF i e.symm)⟩
theorem Chg.alloc (F : Nat → Prop) (w : World) (o : Obj) : Chg F w (w.alloc o) := Chg.grown (World.grownBy_alloc w o none) (fun _ e => by cases e)
theorem Chg.setCell {F : Nat → Prop} (w : World) {b o : Nat} (v : Value) (hF : F b) : Chg F w (w.setCell ⟨b, o, none⟩ v) :=
  ⟨rfl, rfl, rfl, by simp, fun k _ hk => heap_setCell_other w ⟨b, o, none⟩ k v (fun e => hk (by rw [e]; exact hF))⟩
theorem Chg.below {F : Nat → Prop} {a b : World} {B : Nat} (h : Chg F a b) (hB : B ≤ a.heap.size) (hF : ∀ k, F k → B ≤ k) : Below B a b :=
  ⟨h.os, h.tape, h.output, h.size, fun i hi => h.block i (by omega) fun hf => by have := hF i hf; omega⟩
theorem Chg.of_below {F : Nat → Prop} {a b : World} (h : Below a.heap.size a b) : Chg F a b := ⟨h.os, h.tape, h.output, h.size, fun i hi _ => h.block i hi⟩

/-- The slice v owns the numbers l. -/
def OI (w : World) (v : Value) (l : List Int) : Prop := w.ownsRow 0 2 1 v l.length (l.map (Value.int .i64))
/-- In the world w the slice v reads as the numbers l. -/
def RI (w : World) (v : Value) (l : List Int) : Prop :=
  ∃ a c, v = .slice a l.length c ∧ l.length ≤ c ∧ (a = none → c = 0) ∧ (l ≠ [] → ∃ b o, a = some ⟨b, o, none⟩ ∧ b < w.heap.size ∧ ∀ i (h : i < l.length), w.cell? ⟨b, o + i, none⟩ = some (.int .i64 (l[i]'h)))
/-- The map in block b has the keys of l, each with true. -/
def MB (w : World) (b n : Nat) (l : Int → Bool) : Prop :=
  ∃ D : DataW Unit, w.ownsMap Try.prog 2 (plainElem Try.prog 4) b n D ∧ ∀ a, (Lit.int .i64 a).wf = true → D.atKey (.int .i64 a) (.lit (.bool false)) = .lit (.bool (l a))
/-- The map in block b has these elements. -/
def MS (w : World) (b n : Nat) (f : Int → Option Int) : Prop :=
  ∃ D : DataW Unit, w.ownsMap Try.prog 2 (plainElem Try.prog 2) b n D ∧ ∀ a, (Lit.int .i64 a).wf = true → Maps.has D (.int .i64 a) = (f a).isSome ∧ D.atKey (.int .i64 a) (.lit (.int .i64 0)) = .lit (.int .i64 ((f a).getD 0))

/-- A heap of words: its words, how many there may be, where things begin, where they were sent to. -/
structure HSt where
  ws : List Int
  most : Nat
  beg : Int → Bool
  sent : Int → Option Int
  nb : Nat
  ns : Nat

structure HeapIn (w : World) (hb mb ms : Nat) (v : Value) (S : HSt) : Prop where
  cells : w.heap[hb]? = some (.cells #[v, .int .i64 S.most, .map (some mb), .map (some ms)] 63 (0, 0))
  words : OI w v S.ws
  begin_ : MB w mb S.nb S.beg
  sent : MS w ms S.ns S.sent
  d1 : hb ≠ mb
  d2 : hb ≠ ms
  d3 : mb ≠ ms
  d4 : v.ownBlock ≠ some hb
  d5 : v.ownBlock ≠ some mb
  d6 : v.ownBlock ≠ some ms

theorem keyed2 : Keyed Try.prog 2 := int_keyed Try.underlying2
theorem zero2 (w : World) : (zeroValue 2).run Try.prog w = .ok (.int .i64 0) w := by kernel_rfl
theorem zero4 (w : World) : (zeroValue 4).run Try.prog w = .ok (.bool false) w := by kernel_rfl

theorem plainElem_bool_inv {P : Program} {e : TypeId} (he : P.underlying e = some .bool) {v : Value} {z : DataW Unit × List MemPlace} (h : plainElem P e v = some z) : ∃ x, v = .bool x ∧ z = (.lit (.bool x), []) := by
  unfold plainElem at h
  rw [he] at h
  cases v <;> simp at h
  subst h
  exact ⟨_, rfl, rfl⟩
theorem MB.look {w : World} {b n : Nat} {l : Int → Bool} (h : MB w b n l) (a : Int) (ha : (Lit.int .i64 a).wf = true) : (Instr.lookup 60 (.map (some b)) (.int .i64 a) false).run Try.prog w = .ok (.bool (l a)) w := by
  obtain ⟨D, ho, hD⟩ := h
  obtain ⟨v, ps, hr, hv⟩ := ho.lookup keyed2 Try.underlying60 (zero4 w) (plainElem_bool Try.underlying4 false) (keyOf_int_mk Try.underlying2 ha)
  rw [hD a ha] at hv
  obtain ⟨x, rfl, hx⟩ := plainElem_bool_inv Try.underlying4 hv
  simp at hx
  rw [← hx.1] at hr
  exact hr
theorem MS.look {w : World} {b n : Nat} {f : Int → Option Int} (h : MS w b n f) (a : Int) (ha : (Lit.int .i64 a).wf = true) : (Instr.lookup 61 (.map (some b)) (.int .i64 a) false).run Try.prog w = .ok (.int .i64 ((f a).getD 0)) w := by
  obtain ⟨D, ho, hD⟩ := h
  obtain ⟨c, hr, hat, _⟩ := ho.lookup_int keyed2 Try.underlying61 Try.underlying2 (zero2 w) (keyOf_int_mk Try.underlying2 ha)
  rw [(hD a ha).2] at hat
  simp at hat
  rw [← hat] at hr
  exact hr
theorem MS.lookOk {w : World} {b n : Nat} {f : Int → Option Int} (h : MS w b n f) (a : Int) (ha : (Lit.int .i64 a).wf = true) : (Instr.lookup 61 (.map (some b)) (.int .i64 a) true).run Try.prog w = .ok (.tuple #[.int .i64 ((f a).getD 0), .bool (f a).isSome]) w := by
  obtain ⟨D, ho, hD⟩ := h
  obtain ⟨v, ps, hr, hv⟩ := ho.look_ok keyed2 Try.underlying61 (zero2 w) (plainElem_int Try.underlying2 (a := 0) (by decide)) (keyOf_int_mk Try.underlying2 ha)
  rw [(hD a ha).2] at hv
  obtain ⟨x, rfl, hx, _⟩ := plainElem_int_inv Try.underlying2 hv
  simp at hx
  rw [← hx.1, (hD a ha).1] at hr
  exact hr
theorem MB.new (w : World) : MB (w.alloc (.map #[] 0)) w.heap.size 0 (fun _ => false) := ⟨.map [], World.ownsMap_made _ _ _ _, fun _ _ => rfl⟩
theorem MS.new (w : World) : MS (w.alloc (.map #[] 0)) w.heap.size 0 (fun _ => none) := ⟨.map [], World.ownsMap_made _ _ _ _, fun _ _ => ⟨rfl, rfl⟩⟩
theorem MB.chg {F : Nat → Prop} {w w' : World} {b n : Nat} {l : Int → Bool} (h : MB w b n l) (hc : Chg F w w') (hb : ¬ F b) : MB w' b n l := by
  obtain ⟨D, ho, hD⟩ := h
  refine ⟨D, ?_, hD⟩
  have hlt := ho.lt
  obtain ⟨es, clock, hb', r⟩ := ho
  exact ⟨es, clock, (hc.block b hlt hb).trans hb', r⟩
theorem MS.chg {F : Nat → Prop} {w w' : World} {b n : Nat} {f : Int → Option Int} (h : MS w b n f) (hc : Chg F w w') (hb : ¬ F b) : MS w' b n f := by
  obtain ⟨D, ho, hD⟩ := h
  refine ⟨D, ?_, hD⟩
  have hlt := ho.lt
  obtain ⟨es, clock, hb', r⟩ := ho
  exact ⟨es, clock, (hc.block b hlt hb).trans hb', r⟩
theorem MB.lt {w : World} {b n : Nat} {l : Int → Bool} (h : MB w b n l) : b < w.heap.size := by obtain ⟨D, ho, _⟩ := h; exact ho.lt
theorem MS.lt {w : World} {b n : Nat} {f : Int → Option Int} (h : MS w b n f) : b < w.heap.size := by obtain ⟨D, ho, _⟩ := h; exact ho.lt
theorem OI.lt {w : World} {v : Value} {l : List Int} (h : OI w v l) : ∀ k, v.ownBlock = some k → k < w.heap.size := fun k hk => (World.ownsRow.lt h k hk).2
theorem OI.chg {F : Nat → Prop} {w w' : World} {v : Value} {l : List Int} (h : OI w v l) (hc : Chg F w w') (hb : ∀ k, v.ownBlock = some k → ¬ F k) : OI w' v l := by
  have hlt := h.lt
  obtain ⟨h1, h2⟩ := h
  refine ⟨h1, ?_⟩
  rcases h2 with h2 | ⟨g, cap, cur, rfl, hb0, hg, r⟩
  · exact .inl h2
  · exact .inr ⟨g, cap, cur, rfl, hb0, (hc.block g (hlt g rfl) (hb g rfl)).trans hg, r⟩
theorem HeapIn.chg {F : Nat → Prop} {w w' : World} {hb mb ms : Nat} {v : Value} {S : HSt} (h : HeapIn w hb mb ms v S) (hc : Chg F w w') (h1 : ¬ F hb) (h2 : ¬ F mb) (h3 : ¬ F ms) (h4 : ∀ k, v.ownBlock = some k → ¬ F k) : HeapIn w' hb mb ms v S :=
  ⟨(hc.block hb (Array.getElem?_eq_some_iff.1 h.cells).1 h1).trans h.cells, h.words.chg hc h4, h.begin_.chg hc h2, h.sent.chg hc h3, h.d1, h.d2, h.d3, h.d4, h.d5, h.d6⟩
theorem HeapIn.c0 {w : World} {hb mb ms : Nat} {v : Value} {S : HSt} (h : HeapIn w hb mb ms v S) : w.cell? ⟨hb, 0, none⟩ = some v := by unfold World.cell?; rw [h.cells]; rfl
theorem HeapIn.c1 {w : World} {hb mb ms : Nat} {v : Value} {S : HSt} (h : HeapIn w hb mb ms v S) : w.cell? ⟨hb, 1, none⟩ = some (.int .i64 S.most) := by unfold World.cell?; rw [h.cells]; rfl
theorem HeapIn.c2 {w : World} {hb mb ms : Nat} {v : Value} {S : HSt} (h : HeapIn w hb mb ms v S) : w.cell? ⟨hb, 2, none⟩ = some (.map (some mb)) := by unfold World.cell?; rw [h.cells]; rfl
theorem HeapIn.c3 {w : World} {hb mb ms : Nat} {v : Value} {S : HSt} (h : HeapIn w hb mb ms v S) : w.cell? ⟨hb, 3, none⟩ = some (.map (some ms)) := by unfold World.cell?; rw [h.cells]; rfl
theorem HeapIn.fz {w : World} {hb mb ms : Nat} {v : Value} {S : HSt} (h : HeapIn w hb mb ms v S) (o : Nat) : w.frozen? ⟨hb, o, none⟩ = false := by unfold World.frozen?; rw [h.cells]; simp

theorem new_bad (n : Int) (w : World) (h : n < 16 ∨ 4096 < n) : Calls Try.prog 7 #[.int .i64 n] w fun e w' => e = .returned (.tuple #[.pointer none, .int .i64 2]) ∧ w' = w := by
  by_cases h1 : n < 16
  · go_enter Try.func7, Try.ntmps7
    go_wp2
    go_ret2
    exact ⟨rfl, rfl⟩
  · have h2 : 4096 < n := by omega
    clear h
    go_enter Try.func7, Try.ntmps7
    go_wp2
    go_ret2
    exact ⟨rfl, rfl⟩
theorem new_ok (n : Nat) (w : World) (h1 : 16 ≤ n) (h2 : n ≤ 4096) : Calls Try.prog 7 #[.int .i64 n] w fun e w' => ∃ hb mb ms, e = .returned (.tuple #[.pointer (some ⟨hb, 0, none⟩), .int .i64 0]) ∧ w.heap.size ≤ hb ∧ w.heap.size ≤ mb ∧ w.heap.size ≤ ms ∧
    HeapIn w' hb mb ms (.slice none 0 0) ⟨[], n, fun _ => false, fun _ => none, 0, 0⟩ ∧ Below w.heap.size w w' := by
  have hmm := @run_makeMap Try.prog
  go_enter Try.func7, Try.ntmps7
  go_wp2
  go_ret2
  refine ⟨w.heap.size + 1 + 1, w.heap.size, w.heap.size + 1, rfl, by omega, by omega, by omega, ?_, ?_⟩
  · have e0 : (w.alloc (.map #[] 0)).heap.size = w.heap.size + 1 := by simp
    have e1 : ((w.alloc (.map #[] 0)).alloc (.map #[] 0)).heap.size = w.heap.size + 1 + 1 := by simp
    refine ⟨?_, World.ownsRow_nil _ _ _ _, ?_, ?_, by omega, by omega, by omega, by simp [Value.ownBlock], by simp [Value.ownBlock], by simp [Value.ownBlock]⟩
    · have := heap_alloc_new ((w.alloc (.map #[] 0)).alloc (.map #[] 0)) (.cells #[Value.slice none 0 0, Value.int IntKind.i64 (n : Int), Value.map (some w.heap.size), Value.map (some (w.heap.size + 1))] 63)
      rw [e1] at this
      exact this
    · exact ((MB.new w).chg (Chg.alloc (fun _ => False) _ _) (fun h => h)).chg (Chg.alloc (fun _ => False) _ _) (fun h => h)
    · have := MS.new (w.alloc (.map #[] 0))
      rw [e0] at this
      exact this.chg (Chg.alloc (fun _ => False) _ _) (fun h => h)
  · exact ((Below.refl _ w).alloc (Nat.le_refl _) _ |>.alloc (by simp) _).alloc (by simp; omega) _

theorem lost_nil (w : World) : Calls Try.prog 34 #[.pointer none] w fun e w' => e = .returned (.int .i64 1) ∧ w' = w := by
  go_enter Try.func34, Try.ntmps34
  go_wp2
  go_ret
  exact ⟨rfl, rfl⟩
theorem lost_ok (a : Addr) (w : World) : Calls Try.prog 34 #[.pointer (some a)] w fun e w' => e = .returned (.int .i64 3) ∧ w' = w := by
  go_enter Try.func34, Try.ntmps34
  go_wp2
  go_ret
  exact ⟨rfl, rfl⟩
theorem cap_nil (w : World) : Calls Try.prog 23 #[.pointer none] w fun e w' => e = .returned (.int .i64 0) ∧ w' = w := by
  go_enter Try.func23, Try.ntmps23
  go_wp2
  go_ret
  exact ⟨rfl, rfl⟩
theorem cap_ok {hb mb ms : Nat} {v : Value} {S : HSt} (w : World) (h : HeapIn w hb mb ms v S) : Calls Try.prog 23 #[.pointer (some ⟨hb, 0, none⟩)] w fun e w' => e = .returned (.int .i64 S.most) ∧ w' = w := by
  have c1 := h.c1
  clear h
  go_enter Try.func23, Try.ntmps23
  go_wp2
  go_ret
  exact ⟨rfl, rfl⟩
theorem used_nil (w : World) : Calls Try.prog 12 #[.pointer none] w fun e w' => e = .returned (.int .i64 0) ∧ w' = w := by
  go_enter Try.func12, Try.ntmps12
  go_wp2
  go_ret
  exact ⟨rfl, rfl⟩
theorem OI.shape {w : World} {v : Value} {l : List Int} (h : OI w v l) : ∃ a c, v = .slice a l.length c := by
  obtain ⟨h1, h2⟩ := h
  rcases h2 with ⟨rfl, h2⟩ | ⟨g, cap, cur, rfl, _⟩
  · exact ⟨none, 0, by rw [h2]⟩
  · exact ⟨_, cap, rfl⟩
theorem used_ok {hb mb ms : Nat} {v : Value} {S : HSt} (w : World) (h : HeapIn w hb mb ms v S) : Calls Try.prog 12 #[.pointer (some ⟨hb, 0, none⟩)] w fun e w' => e = .returned (.int .i64 S.ws.length) ∧ w' = w := by
  have c0 := h.c0
  obtain ⟨a, c, rfl⟩ := h.words.shape
  clear h
  go_enter Try.func12, Try.ntmps12
  go_wp2
  go_ret
  exact ⟨rfl, rfl⟩
theorem behind_nil (a : Int) (w : World) : Calls Try.prog 33 #[.pointer none, .int .i64 a] w fun e w' => e = .returned (.tuple #[.slice none 0 0, .bool false]) ∧ w' = w := by
  go_enter Try.func33, Try.ntmps33
  go_wp2
  go_ret2
  exact ⟨rfl, rfl⟩
theorem behind_none {hb mb ms : Nat} {v : Value} {S : HSt} (a : Int) (w : World) (h : HeapIn w hb mb ms v S) (ha : (Lit.int .i64 a).wf = true) (hn : S.beg a = false) : Calls Try.prog 33 #[.pointer (some ⟨hb, 0, none⟩), .int .i64 a] w fun e w' => e = .returned (.tuple #[.slice none 0 0, .bool false]) ∧ w' = w := by
  have c2 := h.c2
  have hl := h.begin_.look a ha
  rw [hn] at hl
  clear h
  go_enter Try.func33, Try.ntmps33
  go_wp2
  go_ret2
  exact ⟨rfl, rfl⟩
/-- The slice v is n numbers from the place o on of block g. -/
def SegAt (v : Value) (g o n : Nat) : Prop := ∃ a c, v = .slice a n c ∧ n ≤ c ∧ (0 < n → a = some ⟨g, o, none⟩)
theorem run_seg {g c l : Nat} (lo hi : Nat) (h1 : lo ≤ hi) (h2 : hi ≤ l) (hc : l ≤ c) :
    ∃ v, (∀ W, (Instr.slice 37 (.slice (some ⟨g, 0, none⟩) l c) (some (.int .i64 (lo : Int))) (some (.int .i64 (hi : Int))) none).run Try.prog W = .ok v W) ∧ SegAt v g lo (hi - lo) := by
  refine ⟨sliced (some ⟨g, 0, none⟩) lo hi c 1, fun W => ?_, ?_⟩
  · rw [run_slice_lh W 37 (some ⟨g, 0, none⟩) l c (by simp [Program.elem, Try.underlying37]) .i64 .i64 (lo : Int) (hi : Int) (by omega) (by omega) (by omega)]
    simp [go_sem, Program.elem, Try.underlying37]
  · refine ⟨_, c - lo, rfl, by omega, fun h => ?_⟩
    have : ¬ c = lo := by omega
    simp [this, Addr.add]
    omega
theorem wf_nat {k : Nat} (h : k ≤ 9223372036854775807) : (Lit.int .i64 (k : Int)).wf = true := by
  simp [Lit.wf, IntKind.min, IntKind.max, IntKind.signed, IntKind.bits]
  omega
set_option maxRecDepth 100000 in
set_option maxHeartbeats 1000000 in
theorem behind_some {hb mb ms g c : Nat} {S : HSt} (k n : Nat) (x : Int) (w : World) (h : HeapIn w hb mb ms (.slice (some ⟨g, 0, none⟩) S.ws.length c) S) (hn : S.beg ((k : Int) + 1) = true)
    (hx : S.ws[k]? = some x) (hm : x.tmod 65536 = (n : Int)) (hk : k + 1 + n ≤ S.ws.length) (hbig : S.ws.length ≤ 1048576) :
    Calls Try.prog 33 #[.pointer (some ⟨hb, 0, none⟩), .int .i64 ((k : Int) + 1)] w fun e w' => ∃ sl, e = .returned (.tuple #[sl, .bool true]) ∧ SegAt sl g (k + 1) n ∧ w' = w := by
  have c2 := h.c2
  have c0 := h.c0
  have hwf : (Lit.int .i64 ((k : Int) + 1)).wf = true := by
    have := wf_nat (k := k + 1) (by omega)
    push_cast at this
    exact this
  have hl := h.begin_.look ((k : Int) + 1) hwf
  rw [hn] at hl
  have hlc : S.ws.length ≤ c := by
    rcases h.words.2 with ⟨e, _⟩ | ⟨g', cap, cur, e, _, _, hnc, _⟩
    · simp at e
    · injection e with _ _ e3
      omega
  have hcell : w.cell? ⟨g, k, none⟩ = some (.int .i64 x) := by
    have := World.ownsRow.cellAt h.words k (by omega)
    rw [this, List.getElem?_map, hx]
    rfl
  obtain ⟨sl, hr, hs⟩ := run_seg (g := g) (c := c) (l := S.ws.length) (k + 1) (k + 1 + n) (by omega) hk hlc
  have e1 : k + 1 + n - (k + 1) = n := by omega
  rw [e1] at hs
  have HS := Lib.hid hs
  clear h hn hx hs e1 hwf hlc
  push_cast at hr
  generalize S.ws.length = L at *
  go_enter Try.func33, Try.ntmps33
  go_wp2
  go_ret2
  exact ⟨sl, rfl, HS.out, rfl⟩
end Go.Proofs.Ytefiliomfiomfac
