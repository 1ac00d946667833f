/- Slices of numbers and of acts that came in. -/
import Derived.Test.YtefiliomfiomfacApp
import Derived.SliceStrings
import Derived.Deep.Fields
import Derived.Deep.Slices
import Derived.ProofKit
import Derived.SizedLaws
namespace Go.Proofs.Ytefiliomfiomfac
open Go.RowKit Go.ChangeShapes Go.WideShapes Go.ChangeAt

/-- An act, as the law reads it. -/
structure ActV where
  kind : Int
  id : Int
  n : Int
  s : ByteArray
  at_ : Int
  v : Int
  which : Bool
/-- The cells of an act. -/
def ActAt (w : World) (b o : Nat) (x : ActV) : Prop :=
  w.cell? ⟨b, o, none⟩ = some (.int .i64 x.kind) ∧ w.cell? ⟨b, o + 1, none⟩ = some (.int .i64 x.id) ∧ w.cell? ⟨b, o + 2, none⟩ = some (.int .i64 x.n) ∧ w.cell? ⟨b, o + 3, none⟩ = some (.string x.s) ∧
  w.cell? ⟨b, o + 4, none⟩ = some (.int .i64 x.at_) ∧ w.cell? ⟨b, o + 5, none⟩ = some (.int .i64 x.v) ∧ w.cell? ⟨b, o + 6, none⟩ = some (.bool x.which) ∧
  (Lit.int .i64 x.kind).wf = true ∧ (Lit.int .i64 x.id).wf = true ∧ (Lit.int .i64 x.n).wf = true ∧ (Lit.int .i64 x.at_).wf = true ∧ (Lit.int .i64 x.v).wf = true
instance : Inhabited ActV := ⟨⟨0, 0, 0, default, 0, 0, false⟩⟩
theorem spot_none {W : World} {xb xo : Nat} {xs : Option Nat} {v : Value} (h : W.cell? ((⟨xb, xo, xs⟩ : Addr).add 0) = some v) : xs = none := by
  cases xs with
  | none => rfl
  | some y =>
    exfalso
    unfold World.cell? at h
    simp [Addr.add] at h
    split at h <;> simp_all
theorem open_act {H : Type} {en : TypeId × Value → H} {W : World} {base : Nat} {spare : Nat → Bool} {held : Bool} {fuel : Nat} {cs : List Value} {x : DataW H × List MemPlace} (h : DataW.trod en Try.prog W base spare held fuel 45 cs = some x) :
    ∃ y : ActV, cs = [.int .i64 y.kind, .int .i64 y.id, .int .i64 y.n, .string y.s, .int .i64 y.at_, .int .i64 y.v, .bool y.which] ∧
      (Lit.int .i64 y.kind).wf = true ∧ (Lit.int .i64 y.id).wf = true ∧ (Lit.int .i64 y.n).wf = true ∧ (Lit.int .i64 y.at_).wf = true ∧ (Lit.int .i64 y.v).wf = true := by
  obtain ⟨xs, n, _, _, hlen, hxl, hf⟩ := DataW.trod_struct Try.underlying45 h
  have hc : Try.prog.cellsOf 45 = 7 := by kernel_rfl
  rw [hc] at hlen
  match cs, hlen with
  | [c0, c1, c2, c3, c4, c5, c6], _ =>
    have hx7 : xs.length = 7 := hxl
    match xs, hx7 with
    | [y0, y1, y2, y3, y4, y5, y6], _ =>
      have k3 : Try.prog.cellsOf 3 = 1 := by kernel_rfl
      have k9 : Try.prog.cellsOf 9 = 1 := by kernel_rfl
      have k2 : Try.prog.cellsOf 2 = 1 := by kernel_rfl
      have k4 : Try.prog.cellsOf 4 = 1 := by kernel_rfl
      have f0 : DataW.trod en Try.prog W base spare held n 3 (([c0, c1, c2, c3, c4, c5, c6].drop 0).take (Try.prog.cellsOf 3)) = some y0 := hf 0 _ rfl
      rw [k3] at f0
      have f1 : DataW.trod en Try.prog W base spare held n 3 (([c0, c1, c2, c3, c4, c5, c6].drop 1).take (Try.prog.cellsOf 3)) = some y1 := hf 1 _ rfl
      rw [k3] at f1
      have f2 : DataW.trod en Try.prog W base spare held n 3 (([c0, c1, c2, c3, c4, c5, c6].drop 2).take (Try.prog.cellsOf 3)) = some y2 := hf 2 _ rfl
      rw [k3] at f2
      have f3 : DataW.trod en Try.prog W base spare held n 9 (([c0, c1, c2, c3, c4, c5, c6].drop 3).take (Try.prog.cellsOf 9)) = some y3 := hf 3 _ rfl
      rw [k9] at f3
      have f4 : DataW.trod en Try.prog W base spare held n 2 (([c0, c1, c2, c3, c4, c5, c6].drop 4).take (Try.prog.cellsOf 2)) = some y4 := hf 4 _ rfl
      rw [k2] at f4
      have f5 : DataW.trod en Try.prog W base spare held n 2 (([c0, c1, c2, c3, c4, c5, c6].drop 5).take (Try.prog.cellsOf 2)) = some y5 := hf 5 _ rfl
      rw [k2] at f5
      have f6 : DataW.trod en Try.prog W base spare held n 4 (([c0, c1, c2, c3, c4, c5, c6].drop 6).take (Try.prog.cellsOf 4)) = some y6 := hf 6 _ rfl
      rw [k4] at f6
      obtain ⟨a0, e0, _, w0⟩ := DataW.trod_int Try.underlying3 f0
      obtain ⟨a1, e1, _, w1⟩ := DataW.trod_int Try.underlying3 f1
      obtain ⟨a2, e2, _, w2⟩ := DataW.trod_int Try.underlying3 f2
      obtain ⟨a3, e3, _, w3⟩ := DataW.trod_string Try.underlying9 f3
      obtain ⟨a4, e4, _, w4⟩ := DataW.trod_int Try.underlying2 f4
      obtain ⟨a5, e5, _, w5⟩ := DataW.trod_int Try.underlying2 f5
      obtain ⟨a6, e6, _⟩ := DataW.trod_bool Try.underlying4 f6
      have z0 : [c0] = _ := e0
      injection z0 with z0
      subst z0
      have z1 : [c1] = _ := e1
      injection z1 with z1
      subst z1
      have z2 : [c2] = _ := e2
      injection z2 with z2
      subst z2
      have z3 : [c3] = _ := e3
      injection z3 with z3
      subst z3
      have z4 : [c4] = _ := e4
      injection z4 with z4
      subst z4
      have z5 : [c5] = _ := e5
      injection z5 with z5
      subst z5
      have z6 : [c6] = _ := e6
      injection z6 with z6
      subst z6
      exact ⟨⟨a0, a1, a2, a3, a4, a5, a6⟩, rfl, w0, w1, w2, w4, w5⟩
/-- In the world w the slice v reads as the acts l. -/
def RA (w : World) (v : Value) (l : List ActV) : Prop :=
  ∃ a c, v = .slice a l.length c ∧ l.length ≤ c ∧ (l ≠ [] → ∃ b o, a = some ⟨b, o, none⟩ ∧ b < w.heap.size ∧ ∀ i (h : i < l.length), ActAt w b (o + 7 * i) (l[i]'h))
theorem arg_acts {H : Type} {en : TypeId × Value → H} {W : World} {base : Nat} {spare : Nat → Bool} {held : Bool} {a : Option Addr} {len cap : Nat} {d : DataW H} {ps : List MemPlace} {ts : List TypeId} {ds : List (DataW H)} {j : Nat}
    (_ : (DataW.weightsEach Try.prog ts ds).all (· ≤ reachBytes) = true) (_ : ts[j]? = some 36) (_ : ds[j]? = some d)
    (h : DataW.Trod en Try.prog W base spare held 36 (.slice a len cap) d ps) : ∃ l : List ActV, l.length = len ∧ RA W (.slice a len cap) l ∧ len ≤ maxLen := by
  obtain ⟨fuel, hf⟩ := h
  rcases Deep.open_slice Try.underlying36 hf with ⟨hcs, _⟩ | ⟨x, l, c, m, n, D, Pl, hcs, _, hl, hm, hmm, _, hx⟩
  · simp [Value.cells] at hcs
    obtain ⟨rfl, rfl, rfl⟩ := hcs
    exact ⟨[], rfl, ⟨none, 0, rfl, by simp, fun h => absurd rfl h⟩, by unfold maxLen; omega⟩
  · simp [Value.cells] at hcs
    obtain ⟨rfl, rfl, rfl⟩ := hcs
    have hc7 : Try.prog.cellsOf 45 = 7 := by kernel_rfl
    rw [hc7] at hx
    have hlm : len ≤ m := by rw [hmm]; split <;> omega
    have hx2 : ∀ i, i < m → ∃ y : ActV, (∀ q, q < 7 → W.cell? ((x.add (i * 7)).add q) = ([.int .i64 y.kind, .int .i64 y.id, .int .i64 y.n, .string y.s, .int .i64 y.at_, .int .i64 y.v, .bool y.which] : List Value)[q]?) ∧
        (Lit.int .i64 y.kind).wf = true ∧ (Lit.int .i64 y.id).wf = true ∧ (Lit.int .i64 y.n).wf = true ∧ (Lit.int .i64 y.at_).wf = true ∧ (Lit.int .i64 y.v).wf = true := by
      intro i hi
      obtain ⟨cs', h1, h2⟩ := hx i hi
      obtain ⟨_, _, h3⟩ := World.cells?_some h1
      obtain ⟨y, rfl, hw⟩ := open_act h2
      exact ⟨y, h3, hw⟩
    obtain ⟨V, hV⟩ := Deep.choose_lt hx2
    have hlen : ((List.range len).map V).length = len := by simp
    refine ⟨(List.range len).map V, hlen, ⟨_, cap, by rw [hlen], by rw [hlen]; exact hl, fun hne => ?_⟩, by omega⟩
    have hpos : 0 < len := by
      rcases Nat.eq_zero_or_pos len with h | h
      · subst h; simp at hne
      · exact h
    obtain ⟨xb, xo, xs⟩ := x
    have hc0 := (hV 0 (by omega)).1 0 (by omega)
    have hsp : xs = none := by
      have : ((⟨xb, xo, xs⟩ : Addr).add (0 * 7)).add 0 = (⟨xb, xo, xs⟩ : Addr).add 0 := by simp [Addr.add]
      rw [this] at hc0
      exact spot_none (v := .int .i64 (V 0).kind) hc0
    subst hsp
    have hb := World.block_lt_of_cell? W _ (u := .int .i64 (V 0).kind) hc0
    refine ⟨xb, xo, rfl, by simpa [Addr.add] using hb, ?_⟩
    intro i hi
    rw [hlen] at hi
    obtain ⟨hq, hw⟩ := hV i (by omega)
    have e : ∀ q, ((⟨xb, xo, none⟩ : Addr).add (i * 7)).add q = ⟨xb, xo + 7 * i + q, none⟩ := by
      intro q
      unfold Addr.add
      split <;> split <;> simp_all <;> omega
    have hg : ((List.range len).map V)[i]'(by rw [hlen]; exact hi) = V i := by simp
    rw [hg]
    have g := fun q hq7 => (congrArg W.cell? (e q)).symm.trans (hq q hq7)
    exact ⟨g 0 (by omega), g 1 (by omega), g 2 (by omega), g 3 (by omega), g 4 (by omega), g 5 (by omega), g 6 (by omega), hw⟩
/-- A slice of numbers that came in. -/
theorem arg_ints {H : Type} {en : TypeId × Value → H} {W : World} {base : Nat} {spare : Nat → Bool} {held : Bool} {a : Option Addr} {len cap : Nat} {d : DataW H} {ps : List MemPlace} {ts : List TypeId} {ds : List (DataW H)} {j : Nat}
    (_ : (DataW.weightsEach Try.prog ts ds).all (· ≤ reachBytes) = true) (_ : ts[j]? = some 35) (_ : ds[j]? = some d)
    (h : DataW.Trod en Try.prog W base spare held 35 (.slice a len cap) d ps) : ∃ l : List Int, l.length = len ∧ (RI W (.slice a len cap) l ∧ ∀ x ∈ l, (Lit.int .i64 x).wf = true) ∧ len ≤ maxLen := by
  obtain ⟨fuel, hf⟩ := h
  rcases open_ints Try.underlying35 Try.underlying3 (by kernel_rfl) hf with ⟨hcs, hx⟩ | ⟨x, l, c, zs, hcs, _, hl, hm, hz, hx, hcell, hwf⟩
  · simp [Value.cells] at hcs
    obtain ⟨rfl, rfl, rfl⟩ := hcs
    exact ⟨[], rfl, ⟨RI.nil W, fun x hx => by cases hx⟩, by unfold maxLen; omega⟩
  · simp [Value.cells] at hcs
    obtain ⟨rfl, rfl, rfl⟩ := hcs
    have hl2 : len ≤ zs.length := by
      rw [hz]
      split
      · exact hl
      · exact Nat.le_refl _
    have hlen : (zs.take len).length = len := by simp; omega
    refine ⟨zs.take len, hlen, ⟨⟨_, cap, by rw [hlen], by rw [hlen]; exact hl, (fun h => by cases h), fun hne => ?_⟩, fun y hy => hwf y (List.mem_of_mem_take hy)⟩, by omega⟩
    have hpos : 0 < len := by
      rcases Nat.eq_zero_or_pos len with h | h
      · subst h; simp at hne
      · exact h
    obtain ⟨xb, xo, xs⟩ := x
    have hc0 := hcell 0 (by omega)
    obtain rfl := spot_none hc0
    have hb := World.block_lt_of_cell? W _ hc0
    refine ⟨xb, xo, rfl, by simpa [Addr.add] using hb, ?_⟩
    intro i hi
    rw [hlen] at hi
    have e : (⟨xb, xo, none⟩ : Addr).add i = ⟨xb, xo + i, none⟩ := by unfold Addr.add; split <;> simp_all
    have hc := hcell i (by omega)
    rw [e] at hc
    rw [hc, List.getElem_take, List.getD_eq_getElem?_getD, List.getElem?_eq_getElem (by omega)]
    rfl
end Go.Proofs.Ytefiliomfiomfac
