/- The evaluator on which this proof rests, and its soundness against the model, part b; no conditions. -/
import Derived.Test.YtkhdliicgfmghaaGreatDoorEa
import Derived.Laws.BytesString
import Derived.Lib.AppendStr
import Derived.Deep.AppendSrc
import Derived.Laws.Tables
import Derived.AtR
import Derived.Orders
section
namespace Go.Ev
open Go
structure DoesP (P : Program) (j B0 : Nat) (ρ : Rho) (w : World) (h : Hp) (v : AV) (x : Value) (w' : World) (ρ' : Rho) : Prop where
  os : w'.os = w.os
  out : w'.output = w.output
  tape : w'.tape = w.tape
  tn : Tn B0 ρ ρ' w.heap w'.heap
  hr : HR P ρ' j B0 h w'.heap
  vr : VR ρ' j v x
  nt : v ≠ top
def Does (P : Program) (j B0 : Nat) (s : Sem Value) (ρ : Rho) (w : World) (h : Hp) (v : AV) : Prop := ∃ x w' ρ', s.run P w = .ok x w' ∧ DoesP P j B0 ρ w h v x w' ρ'
def DoesU (P : Program) (j B0 : Nat) (s : Sem Unit) (ρ : Rho) (w : World) (h : Hp) (v : AV) : Prop := ∃ w' ρ', s.run P w = .ok () w' ∧ DoesP P j B0 ρ w h v undef w' ρ'
section
variable {P : Program} {ρ ρ' : Rho} {j B0 : Nat} {H H' : Array Obj} {w : World} {h h' : Hp} {u : AV}
theorem DoesP.same {v : AV} {x : Value} (hr : HR P ρ j B0 h w.heap) (hv : VR ρ j v x) (hn : v ≠ top) : DoesP P j B0 ρ w h v x w ρ := ⟨rfl, rfl, rfl, .refl _ _ _, hr, hv, hn⟩
theorem DoesP.mem {v : AV} {x : Value} {H' : Array Obj} (tn : Tn B0 ρ ρ' w.heap H') (hr : HR P ρ' j B0 h H') (hv : VR ρ' j v x) (hn : v ≠ top) : DoesP P j B0 ρ w h v x { w with heap := H' } ρ' := ⟨rfl, rfl, rfl, tn, hr, hv, hn⟩
theorem Bt.get_out : ∀ (t : Bt) (N k : Nat), t.ok N → N ≤ k → t.get k = []
  | .e, _, _, _, _ => rfl
  | .n v l r, N, k, h, hk => by
    obtain ⟨m, rfl, hl, hr⟩ := h
    obtain ⟨q, rfl⟩ : ∃ q, k = q + 1 := ⟨k - 1, by omega⟩
    rw [Bt.get_s]
    by_cases c : q % 2 = 0
    · rw [if_pos c]; exact Bt.get_out l _ _ hl (by omega)
    · rw [if_neg c]; exact Bt.get_out r _ _ hr (by omega)
theorem agg_cells {l : List AV} {xs : List Value} (h : VRs ρ j l xs) (hn : agg l ≠ top) : VR ρ j (agg l) (.agg xs.toArray) := by
  have E : agg l = bc (anyTop l) top (.x 0 0 l) := rfl
  rw [E] at hn ⊢
  cases e : anyTop l with
  | true => rw [e] at hn; exact absurd rfl hn
  | false => rw [bc_f]; exact .agg (by simpa using h)
theorem aLoadN_ok {t : TypeId} {D : TypeDesc} {i : TypeInfo} {x : AV} {v : Value} (hD : P.underlying t = some D) (hi : P.info? t = some i) (hx : VR ρ j x v) (hr : HR P ρ j B0 h w.heap) (e : aLoadN (isAggD D) i.size x h = .ok u h') :
    h' = h ∧ u ≠ top ∧ ∃ z, (Instr.loadAt t v).run P w = .ok z w ∧ VR ρ j u z := by
  obtain ⟨o, m, f, rfl, e⟩ := cP_ok (x := x) e badNe
  obtain ⟨B, X, hl, rfl⟩ := ptr_inv hx
  obtain ⟨t', k, wr, ms, ho, e⟩ := cC_ok e badNe
  obtain ⟨⟨id, n, tr⟩, hm, hid, e⟩ := findM_ok e badNe
  obtain ⟨hle, e⟩ := bcR e badNe
  obtain ⟨hn, rfl, rfl⟩ := rsV_ok e
  have cr := hr.cr ho
  obtain rfl : id = m := hid
  have mem : MemR ρ j w.heap k n tr B X := cr.mem _ hm B X hl
  have tr' : TrOK k n tr := cr.tr _ hm
  have hle : f + i.size ≤ n * k := by rw [ble_eq, decide_eq_true_eq] at hle; exact hle
  refine ⟨rfl, hn, ?_⟩
  have E : ldv (isAggD D) i.size k tr f = bc (isAggD D) (agg (rd k tr i.size f)) (cell k tr f) := rfl
  have e' : (Me.mk id n tr).tr = tr := rfl
  rw [e', E] at hn ⊢
  cases hg : isAggD D with
  | true =>
    rw [hg, bc_t, rd_eq tr' cr.pos hle] at hn
    rw [bc_t, rd_eq tr' cr.pos hle]
    obtain ⟨xs, hlen, hvs, hrun⟩ := load_cells (P := P) mem hle
    refine ⟨.agg xs.toArray, ?_, agg_cells hvs hn⟩
    simp [Instr.loadAt, Instr.sureAddr, loadVar, isAgg_run hD, hg, size_run hi, hrun w rfl]
  | false =>
    rw [hg, bc_f] at hn
    rw [bc_f]
    have hf : f < n * k := by
      rcases Nat.lt_or_ge f (n * k) with h | h
      · exact h
      · exfalso; apply hn
        have hq : n ≤ f / k := by rw [Nat.le_div_iff_mul_le cr.pos]; exact h
        rw [cell_eq, Bt.get_out tr n _ tr'.ok hq]; rfl
    obtain ⟨cs, hb, hx, hc⟩ := mem.ex
    obtain ⟨z, hz, hv⟩ := hc f hf
    exact ⟨z, by simp [Instr.loadAt, Instr.sureAddr, loadVar, isAgg_run hD, hg, load, Sem.run, hb.cell (w := w) rfl, hz], hv⟩
theorem ld1_ok {g : Bool} {k : Nat} {x : AV} (hn : ld1 g k h x ≠ top) : aLoadN g k x h = .ok (ld1 g k h x) h := by
  cases x with
  | p o m f =>
    have E1 : ld1 g k h (.p o m f) = Ob.cC (h.ob o) top fun _ ko _ ms => findM m top (fun n tr => bc (Nat.ble (Nat.add f k) (Nat.mul n ko)) (ldv g k ko tr f) top) ms := rfl
    have E2 : aLoadN g k (.p o m f) h = Ob.cC (h.ob o) (.bad 2) fun _ ko _ ms => findM m (.bad 3) (fun n tr => bc (Nat.ble (Nat.add f k) (Nat.mul n ko)) (rsV 4 (ldv g k ko tr f) h) (.bad 5)) ms := rfl
    rw [E1] at hn ⊢
    rw [E2]
    generalize h.ob o = b at hn ⊢
    cases b with
    | c t ko w ms =>
      have F1 : (Ob.cC (.c t ko w ms) top fun _ ko _ ms => findM m top (fun n tr => bc (Nat.ble (Nat.add f k) (Nat.mul n ko)) (ldv g k ko tr f) top) ms) = findM m top (fun n tr => bc (Nat.ble (Nat.add f k) (Nat.mul n ko)) (ldv g k ko tr f) top) ms := rfl
      have F2 : (Ob.cC (.c t ko w ms) (.bad 2) fun _ ko _ ms => findM m (.bad 3) (fun n tr => bc (Nat.ble (Nat.add f k) (Nat.mul n ko)) (rsV 4 (ldv g k ko tr f) h) (.bad 5)) ms) = findM m (.bad 3) (fun n tr => bc (Nat.ble (Nat.add f k) (Nat.mul n ko)) (rsV 4 (ldv g k ko tr f) h) (.bad 5)) ms := rfl
      rw [F1] at hn ⊢
      rw [F2]
      clear E1 E2 F1 F2
      induction ms with
      | nil => exact absurd rfl hn
      | cons a l ih =>
        obtain ⟨id, n, tr⟩ := a
        have G1 : findM m top (fun n tr => bc (Nat.ble (Nat.add f k) (Nat.mul n ko)) (ldv g k ko tr f) top) (.mk id n tr :: l) = bc (Nat.beq id m) (bc (Nat.ble (Nat.add f k) (Nat.mul n ko)) (ldv g k ko tr f) top) (findM m top (fun n tr => bc (Nat.ble (Nat.add f k) (Nat.mul n ko)) (ldv g k ko tr f) top) l) := rfl
        have G2 : findM m (.bad 3) (fun n tr => bc (Nat.ble (Nat.add f k) (Nat.mul n ko)) (rsV 4 (ldv g k ko tr f) h) (.bad 5)) (.mk id n tr :: l) = bc (Nat.beq id m) (bc (Nat.ble (Nat.add f k) (Nat.mul n ko)) (rsV 4 (ldv g k ko tr f) h) (.bad 5)) (findM m (.bad 3) (fun n tr => bc (Nat.ble (Nat.add f k) (Nat.mul n ko)) (rsV 4 (ldv g k ko tr f) h) (.bad 5)) l) := rfl
        rw [G1] at hn ⊢
        rw [G2]
        cases hb : Nat.beq id m with
        | false => rw [hb, bc_f] at hn; rw [bc_f, bc_f]; exact ih hn
        | true =>
          rw [hb, bc_t] at hn
          rw [bc_t, bc_t]
          cases hc : Nat.ble (Nat.add f k) (Nat.mul n ko) with
          | false => rw [hc] at hn; exact absurd rfl hn
          | true =>
            rw [hc, bc_t] at hn
            rw [bc_t, bc_t]
            have R : rsV 4 (ldv g k ko tr f) h = bc (isTop (ldv g k ko tr f)) (.bad 4) (.ok (ldv g k ko tr f) h) := rfl
            rw [R]
            cases ht : isTop (ldv g k ko tr f) with
            | true => exact absurd ((isTop_eq _).1 ht) hn
            | false => rfl
    | _ => exact absurd rfl hn
  | _ => exact absurd rfl hn
theorem aLoad_ok {t : TypeId} {D : TypeDesc} {i : TypeInfo} {x : AV} {v : Value} (hD : P.underlying t = some D) (hi : P.info? t = some i) (hx : VR ρ j x v) (hr : HR P ρ j B0 h w.heap) (e : aLoad (isAggD D) i.size x h = .ok u h') :
    h' = h ∧ u ≠ top ∧ ∃ z, (Instr.loadAt t v).run P w = .ok z w ∧ VR ρ j u z := by
  have E : aLoad (isAggD D) i.size x h = bc (isL x) (rsV 4 (lz1 (ld1 (isAggD D) i.size h) x) h) (aLoadN (isAggD D) i.size x h) := rfl
  rw [E] at e
  cases hL : isL x with
  | false => rw [hL, bc_f] at e; exact aLoadN_ok hD hi hx hr e
  | true =>
    rw [hL, bc_t] at e
    obtain ⟨hn, rfl, rfl⟩ := rsV_ok e
    obtain ⟨t', vs, rfl⟩ := isL_x hL
    obtain ⟨a, ha, hv⟩ := hx.lane
    have e2 : lz1 (ld1 (isAggD D) i.size h') (.x 4 t' vs) = normL (mapA (ld1 (isAggD D) i.size h') vs) := rfl
    rw [e2] at hn ⊢
    have hr' : (mapA (ld1 (isAggD D) i.size h') vs)[j]? = some (ld1 (isAggD D) i.size h' a) := by rw [mapA_eq, List.getElem?_map, ha]; rfl
    obtain ⟨h1, h2⟩ := normL_ok (ρ := ρ) hn hr'
    obtain ⟨_, _, z, hz, hvr⟩ := aLoadN_ok hD hi hv hr (ld1_ok h1)
    exact ⟨rfl, hn, z, hz, h2 z hvr⟩
theorem aLoadN_ptr {g : Bool} {k : Nat} {x : AV} {v : Value} (hx : VR ρ j x v) (e : aLoadN g k x h = .ok u h') : ∃ A, v = .pointer (some A) := by
  obtain ⟨o, m, f, rfl, _⟩ := cP_ok (x := x) e badNe
  obtain ⟨B, Y, _, e⟩ := ptr_inv hx
  exact ⟨_, e⟩
theorem aLoad_ptr {g : Bool} {k : Nat} {x : AV} {v : Value} (hx : VR ρ j x v) (e : aLoad g k x h = .ok u h') : ∃ A, v = .pointer (some A) := by
  have E : aLoad g k x h = bc (isL x) (rsV 4 (lz1 (ld1 g k h) x) h) (aLoadN g k x h) := rfl
  rw [E] at e
  cases hL : isL x with
  | false => rw [hL, bc_f] at e; exact aLoadN_ptr hx e
  | true =>
    rw [hL, bc_t] at e
    obtain ⟨hn, _, _⟩ := rsV_ok e
    obtain ⟨t', vs, rfl⟩ := isL_x hL
    obtain ⟨a, ha, hv⟩ := hx.lane
    have e2 : lz1 (ld1 g k h) (.x 4 t' vs) = normL (mapA (ld1 g k h) vs) := rfl
    rw [e2] at hn
    have hr' : (mapA (ld1 g k h) vs)[j]? = some (ld1 g k h a) := by rw [mapA_eq, List.getElem?_map, ha]; rfl
    exact aLoadN_ptr hv (ld1_ok (normL_ok (ρ := ρ) hn hr').1)
theorem cells_ok {a : AV} {x : Value} (hv : VR ρ j a x) (ho : oneL (cellsA a) = true) : VRs ρ j (cellsA a) x.cells.toList := by
  have one : cellsA a = [a] → VRs ρ j (cellsA a) x.cells.toList := by
    intro e
    rw [e] at ho ⊢
    have := okC_one (oneL_mem ho a (by simp)) hv
    have hc : x.cells = #[x] := by
      cases x <;> first | rfl | cases this
    rw [hc]
    exact .cons hv .nil
  cases a with
  | x w t vs =>
    have E : cellsA (.x w t vs) = bc (Nat.beq w 0) vs [.x w t vs] := rfl
    by_cases h0 : w = 0
    · subst h0
      obtain ⟨a, rfl, h⟩ := agg_inv hv
      exact h
    · rw [beq_eq] at E
      simp only [h0, decide_false, bc_f] at E
      exact one E
  | _ => exact one rfl
theorem put_ok {o : Ps} {t' k n m f : Nat} {ms : List Me} {tr tr2 : Bt} {vs : List AV} {xs : List Value} {B X : Nat} (hl : ρ o m = some (B, X)) (hr : HR P ρ j B0 h w.heap) (hvs : VRs ρ j vs xs) (h1 : ∀ x ∈ xs, x.oneCell' = true)
    (ho : h.ob o = .c t' k true ms) (hm : Me.mk m n tr ∈ ms) (hle : f + vs.length ≤ n * k) (hput : Put k n tr tr2 vs f) :
    ∃ H', (∀ w0 : World, w0.heap = w.heap → (storeCells ⟨B, X + f, none⟩ xs 0).run P w0 = .ok () { w0 with heap := H' }) ∧ Tn B0 ρ ρ w.heap H' ∧ HR P ρ j B0 (h.put o (.c t' k true [.mk m n tr2])) H' := by
  have cr := hr.cr ho
  obtain ⟨cs, hb, hx, hc⟩ := cr.mem _ hm B X hl
  have hx : X + n * k ≤ cs.size := hx
  have hc : CellsR ρ j k n tr cs X := hc
  have hlen := hvs.length
  obtain ⟨el, fz, hB, hz⟩ := hb.get
  have hBs := (Array.getElem?_eq_some_iff.1 hB).1
  obtain ⟨cs', _, hsz, hq⟩ := store_cells (P := P) B (X + f) el fz xs 0 cs w hB hz (by omega) h1
  refine ⟨w.heap.setIfInBounds B (.cells cs' el fz), ?_, ?_⟩
  · intro w0 hw0
    obtain ⟨cs2, hrun, hsz2, hq2⟩ := store_cells (P := P) B (X + f) el fz xs 0 cs w0 (by rw [hw0]; exact hB) hz (by omega) h1
    have : cs2 = cs' := by
      apply Array.ext_getElem?
      intro q; rw [hq, hq2]
    subst this
    rw [← hw0]; exact hrun
  · have hB0 : B0 ≤ B := cr.low rfl _ _ hl
    have hn := Hp.put_nx h o (.c t' k true [.mk m n tr2])
    have crn : CR ρ j B0 (w.heap.setIfInBounds B (.cells cs' el fz)) o k true [.mk m n tr2] := by
      refine ⟨cr.pos, cr.kk, fun _ => cr.low rfl, fun me hme => ?_, fun me hme B' X' hl' => ?_, by simp⟩
      · obtain rfl : me = .mk m n tr2 := by simpa using hme
        exact hput.1
      · obtain rfl : me = .mk m n tr2 := by simpa using hme
        have hl' : ρ o m = some (B', X') := hl'
        rw [hl] at hl'
        injection hl' with hl'
        injection hl' with e1 e2
        subst e1; subst e2
        refine ⟨cs', ⟨⟨el, fz, by simp [hBs], (by rw [hsz]; exact hz)⟩, by rw [hsz]; exact hb.sz⟩, by rw [hsz]; exact hx, fun i hi => ?_⟩
        have hi : i < n * k := hi
        have hcell := hput.2 i hi
        show ∃ v, cs'[X + i]? = some v ∧ VR ρ j (cell k tr2 i) v
        rw [hcell, hq]
        by_cases c : f ≤ i ∧ i < f + vs.length
        · rw [if_pos c, if_pos (by omega)]
          have hi' : i - f < vs.length := by omega
          obtain ⟨y, hy, hv⟩ := hvs.get (i - f) vs[i - f] (List.getElem?_eq_getElem hi')
          refine ⟨y, by rw [show X + i - (X + f + 0) = i - f by omega]; exact hy, ?_⟩
          rw [List.getElem?_eq_getElem hi']; exact hv
        · rw [if_neg c, if_neg (by omega)]
          exact hc i hi
    have := hr.upd (o := o) (ob := .c t' k true [.mk m n tr2]) (h' := h.put o (.c t' k true [.mk m n tr2])) (ρ' := ρ) (H' := w.heap.setIfInBounds B (.cells cs' el fz))
      (fun q => Hp.ob_put _ _ _ _) (by rw [hn.1]; exact Nat.le_refl _) (by rw [hn.2]; exact Nat.le_refl _) ρ.le_refl (by simp) (fun _ _ _ _ h => h)
      (fun m p e => by
        have := hr.fresh o m p e
        rw [hn.1, hn.2]
        exact ⟨this.1, this.2.1, by simpa using this.2.2, .inl ⟨m, p.2, e⟩⟩)
      (fun b hb hor => by
        rw [Array.getElem?_setIfInBounds]
        rw [if_neg]
        intro hbe
        subst hbe
        rcases hor with h | h
        · omega
        · exact h _ _ hl)
      crn (.inl (by rw [hn.1]; exact hr.lt ho (by intro h; cases h)))
      (fun t2 k2 w2 ms2 e2 me hme => by
        injection e2 with _ _ _ e2
        subst e2
        obtain rfl : me = .mk m n tr2 := by simpa using hme
        rw [hn.2]
        exact hr.ids o _ _ _ _ ho (.mk m n tr) hm)
    exact ⟨this.2, this.1⟩
theorem stv_ok {o : Ps} {m f : Nat} {vs : List AV} {xs : List Value} {r : AV} {B X : Nat} (hl : ρ o m = some (B, X)) (hr : HR P ρ j B0 h w.heap) (hvs : VRs ρ j vs xs) (h1 : ∀ x ∈ xs, x.oneCell' = true)
    (e : stv h o m f vs.length vs r = .ok u h') : u = r ∧ ∃ H', (∀ w0 : World, w0.heap = w.heap → (storeCells ⟨B, X + f, none⟩ xs 0).run P w0 = .ok () { w0 with heap := H' }) ∧ Tn B0 ρ ρ w.heap H' ∧ HR P ρ j B0 h' H' := by
  obtain ⟨t', k, wr, ms, ho, e⟩ := cC_ok e badNe
  obtain ⟨hw, e⟩ := bcR e badNe
  obtain ⟨⟨id, n, tr⟩, hm, hid, e⟩ := findM_ok e badNe
  obtain ⟨hle, e⟩ := bcR e badNe
  injection e with e1 e2
  subst e1; subst e2
  subst hw
  obtain rfl : id = m := hid
  have cr := hr.cr ho
  have hle : f + vs.length ≤ n * k := by rw [ble_eq, decide_eq_true_eq] at hle; exact hle
  exact ⟨rfl, put_ok hl hr hvs h1 ho hm hle (wr_ok (cr.tr _ hm) cr.pos hle)⟩
theorem aStore_ok {t : TypeId} {i : TypeInfo} {x a : AV} {v y : Value} (hi : P.info? t = some i) (hx : VR ρ j x v) (ha : VR ρ j a y) (hr : HR P ρ j B0 h w.heap) (e : aStore i.size x a h = .ok u h') : DoesU P j B0 (Instr.storeAt t v y) ρ w h' u := by
  obtain ⟨o, m, f, rfl, e⟩ := cP_ok (x := x) e badNe
  obtain ⟨B, X, hl, rfl⟩ := ptr_inv hx
  have e : bc (andB (Nat.beq (lenA (cellsA a)) i.size) (oneL (cellsA a))) (stv h o m f i.size (cellsA a) und) (.bad 11) = .ok u h' := e
  obtain ⟨hc, e⟩ := bcR e badNe
  rw [andB_eq, Bool.and_eq_true, beq_eq, decide_eq_true_eq, lenA_eq] at hc
  have hvs := cells_ok ha hc.2
  rw [← hc.1] at e
  obtain ⟨rfl, H', hrun, tn, hr'⟩ := stv_ok hl hr hvs (oneL_one hc.2 hvs) e
  have hsz : y.cells.size = i.size := by
    have := hvs.length
    rw [← hc.1, this]; simp
  refine ⟨_, ρ, ?_, DoesP.mem tn hr' .und (by intro h; cases h)⟩
  simp [Instr.storeAt, Instr.sureAddr, storeVar, size_run hi, hsz, hrun w rfl]
end
end Go.Ev
end
section
namespace Go.Ev
open Go
section
variable {P : Program} {ρ ρ' : Rho} {j B0 : Nat} {H H' : Array Obj} {w : World} {h h' : Hp} {u : AV}
theorem push_get {H : Array Obj} {o : Obj} {b : Nat} (hb : b < H.size) : (H.push o)[b]? = H[b]? := by
  rw [Array.getElem?_push, if_neg (by omega)]
theorem HR.push (hr : HR P ρ j B0 h H) (o : Obj) : HR P ρ j B0 h (H.push o) ∧ Tn B0 ρ ρ H (H.push o) := by
  have := hr.upd (o := .h) (ob := h.ob .h) (h' := h) (ρ' := ρ) (H' := H.push o) (fun q => by by_cases e : Ps.h = q <;> simp [e]) (Nat.le_refl _) (Nat.le_refl _) ρ.le_refl (by simp) (fun _ _ _ _ h => h)
    (fun m p e => by have := hr.fresh _ m p e; exact ⟨this.1, this.2.1, by simp; omega, .inl ⟨m, p.2, e⟩⟩) (fun b hb _ => push_get hb)
    ((hr.obs .h).keep ρ.le_refl (fun _ _ h => h) fun m p e => push_get (hr.fresh _ m p e).2.2)
    (by
      cases e : h.ob .h with
      | no => exact .inr rfl
      | _ => exact .inl (hr.lt e (by intro h; cases h)))
    (fun t k w ms e => hr.ids _ t k w ms e)
  exact this
theorem HR.real {o : Ps} {t k n : Nat} {tr : Bt} {cs : Array Value} {el : TypeId} {fz : Nat × Nat} (hr : HR P ρ j B0 h H) (hob : h.ob o = .c t k true [.mk 0 n tr]) (hn : ∀ m, ρ o m = none) (hlt : o.num < h.nx.num)
    (hsz : n * k ≤ cs.size) (hfz : Fz cs.size fz) (hc : CellsR ρ j k n tr cs 0) :
    HR P (ρ.add o 0 H.size 0 k cs.size) j B0 h (H.push (.cells cs el fz)) ∧ TnW B0 ρ (ρ.add o 0 H.size 0 k cs.size) H (H.push (.cells cs el fz)) := by
  have le : ρ.le (ρ.add o 0 H.size 0 k cs.size) := Rho.add_le (hn 0) (fun m p e => by rw [hn m] at e; cases e) (fun q l Y e => by have := (hr.fresh q l _ e).2.2; simp at this)
  have cr := hr.cr hob
  have one : ∀ m p, ρ.add o 0 H.size 0 k cs.size o m = some p → m = 0 ∧ p = (H.size, 0) := by
    intro m p e
    rcases Rho.add_inv e with ⟨_, h2, h3⟩ | e
    · exact ⟨h2, h3⟩
    · rw [hn m] at e; cases e
  exact hr.updW (o := o) (ob := h.ob o) (h' := h) (fun q => by by_cases e : o = q <;> simp [e]) (Nat.le_refl _) (Nat.le_refl _) le (by simp)
    (fun q hq m p e => by
      rcases Rho.add_inv e with ⟨h1, _, _⟩ | e
      · exact absurd h1 hq
      · exact e)
    (fun m p e => by
      obtain ⟨rfl, rfl⟩ := one m p e
      exact ⟨hlt, hr.md, by simp, .inr (Nat.le_refl _)⟩)
    (fun b hb _ => push_get hb)
    (by
      rw [hob]
      exact ⟨cr.pos, fun m p e => by show (if o = o then k else _) = k; rw [if_pos rfl], fun _ m p e => by rw [(one m p e).2]; exact hr.base, cr.tr, fun me hme B X e => by
        obtain rfl : me = .mk 0 n tr := by simpa using hme
        have := (one _ _ e).2
        injection this with e1 e2
        subst e1; subst e2
        refine ⟨cs, ⟨⟨el, fz, by simp, hfz⟩, by show cs.size = (if H.size = H.size then cs.size else _); rw [if_pos rfl]⟩, by rw [Nat.zero_add]; exact hsz, fun i hi => ?_⟩
        obtain ⟨v, e, r⟩ := hc i hi
        exact ⟨v, e, r.mono le⟩, by simp⟩)
    (.inl hlt) (fun t k w ms e => hr.ids _ t k w ms e)
structure AllocP (P : Program) (j : Nat) (ρ : Rho) (w : World) (s : Sem Value) (r : Ps → AV) (k n : Nat) (tr : Bt) : Prop where
  pos : 0 < k
  tr' : TrOK k n tr
  run : ∃ x w' cs el fz, s.run P w = .ok x w' ∧ w'.os = w.os ∧ w'.output = w.output ∧ w'.tape = w.tape ∧ w'.heap = w.heap.push (.cells cs el fz) ∧ Fz cs.size fz ∧ n * k ≤ cs.size ∧ CellsR ρ j k n tr cs 0 ∧
    ∀ (ρ' : Rho) o, ρ.le ρ' → ρ' o 0 = some (w.heap.size, 0) → ρ'.k o = k → ρ'.sz w.heap.size = cs.size → VR ρ' j (r o) x ∧ r o ≠ top
theorem newc_inv {r : Ps → AV} {t k n : Nat} {tr : Bt} (e : newc r t k n tr h = .ok u h') : 0 < k ∧ u = r h.nx ∧ ∃ T q d, h = .mk T q d ∧ h' = .mk (Tr.set .no q (.c t k true [.mk 0 n tr]) T) q.succ d := by
  obtain ⟨T, q, d⟩ := h
  cases k with
  | zero => cases e
  | succ k =>
    have e : Rs.ok (r q) (.mk (Tr.set .no q (.c t (k + 1) true [.mk 0 n tr]) T) q.succ d) = .ok u h' := e
    injection e with e1 e2
    exact ⟨by omega, e1.symm, T, q, d, rfl, e2.symm⟩
theorem newc_virt {r : Ps → AV} {t k n : Nat} {tr : Bt} (e : newc r t k n tr h = .ok u h') (htr : TrOK k n tr) (hr : HR P ρ j B0 h H) : HR P ρ j B0 h' H ∧ h'.ob h.nx = .c t k true [.mk 0 n tr] ∧ h.nx.num < h'.nx.num := by
  obtain ⟨hk, rfl, T, q, d, rfl, rfl⟩ := newc_inv e
  have new : ∀ ρ : Rho, (∀ m, ρ q m = none) → CR ρ j B0 H q k true [.mk 0 n tr] := by
    intro ρ hn
    refine ⟨hk, fun m p e => ?_, fun _ m p e => ?_, fun me hme => ?_, fun me hme B X e => ?_, by simp⟩
    · rw [hn m] at e; cases e
    · rw [hn m] at e; cases e
    · obtain rfl : me = .mk 0 n tr := by simpa using hme
      exact htr
    · rw [hn _] at e; cases e
  refine ⟨hr.virt new (fun t2 k2 w2 ms2 e2 me hme => by
    injection e2 with _ _ _ e2
    subst e2
    obtain rfl : me = .mk 0 n tr := by simpa using hme
    exact hr.md), ?_, ?_⟩
  · show Tr.get .no q (Tr.set .no q _ T) = _
    rw [Tr.get_set, if_pos rfl]
  · show q.num < q.succ.num
    rw [Ps.succ_num]; omega
theorem HR.no {q : Ps} (hr : HR P ρ j B0 h H) (hq : h.nx.num ≤ q.num) (m : Nat) : ρ q m = none := by
  cases e : ρ q m with
  | none => rfl
  | some p => have := (hr.fresh _ _ _ e).1; omega
structure RealP (P : Program) (j B0 : Nat) (ρ : Rho) (w : World) (h : Hp) (v : AV) (x : Value) (w' : World) (ρ' : Rho) (o : Ps) : Prop where
  os : w'.os = w.os
  out : w'.output = w.output
  tape : w'.tape = w.tape
  tn : TnW B0 ρ ρ' w.heap w'.heap
  hr : HR P ρ' j B0 h w'.heap
  vr : VR ρ' j v x
  nt : v ≠ top
  nxe : ρ'.nx = ρ.nx
  one : ∀ q m p, ρ' q m = some p → q ≠ o → ρ q m = some p
theorem RealP.does {v : AV} {x : Value} {w' : World} {o : Ps} (r : RealP P j B0 ρ w h v x w' ρ' o) (hn : ρ.nx ≤ o.num) : DoesP P j B0 ρ w h v x w' ρ' :=
  ⟨r.os, r.out, r.tape, ⟨r.tn, fun q m p e => by
    by_cases hq : q = o
    · subst hq; exact .inr hn
    · exact .inl ⟨m, p, r.one q m p e hq⟩, r.nxe⟩, r.hr, r.vr, r.nt⟩
theorem AllocP.real {s : Sem Value} {r : Ps → AV} {t k n : Nat} {tr tr0 : Bt} {o : Ps} (a : AllocP P j ρ w s r k n tr0) (hr : HR P ρ j B0 h w.heap) (hob : h.ob o = .c t k true [.mk 0 n tr]) (hlt : o.num < h.nx.num) (hn : ∀ m, ρ o m = none)
    (hsame : ∀ i, i < n * k → cell k tr i = cell k tr0 i) : ∃ x w' ρ', s.run P w = .ok x w' ∧ RealP P j B0 ρ w h (r o) x w' ρ' o := by
  obtain ⟨x, w', cs, el, fz, hrun, h1, h2, h3, h4, hz, hsz, hc, hv⟩ := a.run
  obtain ⟨hr', tn⟩ := hr.real (el := el) hob hn hlt hsz hz (fun i hi => by rw [hsame i hi]; exact hc i hi)
  have := hv _ o tn.le (Rho.add_at _ _ _ _ _ _ _) (by show (if o = o then k else _) = k; rw [if_pos rfl]) (by show (if w.heap.size = w.heap.size then cs.size else _) = _; rw [if_pos rfl])
  exact ⟨x, w', _, hrun, h1, h2, h3, by rw [h4]; exact tn, by rw [h4]; exact hr', this.1, this.2, rfl, fun q m p e hq => by
    rcases Rho.add_inv e with ⟨e1, _, _⟩ | e
    · exact absurd e1 hq
    · exact e⟩
theorem AllocP.does {s : Sem Value} {r : Ps → AV} {t k n : Nat} {tr : Bt} (a : AllocP P j ρ w s r k n tr) (hr : HR P ρ j B0 h w.heap) (e : newc r t k n tr h = .ok u h') : Does P j B0 s ρ w h' u := by
  obtain ⟨hr', hob, hlt⟩ := newc_virt e a.tr' hr
  obtain ⟨_, rfl, _⟩ := newc_inv e
  obtain ⟨x, w', ρ', hrun, r⟩ := a.real hr' hob hlt (hr.no (Nat.le_refl _)) (fun _ _ => rfl)
  exact ⟨x, w', ρ', hrun, r.does hr.nxl⟩
theorem grpL_get (k : Nat) : ∀ (n : Nat) (l : List AV) (e : Nat), l.length = k * n → e < n → (grpL k n l)[e]? = some ((l.drop (e * k)).take k)
  | 0, _, _, _, h => by omega
  | n + 1, l, e, hl, he => by
    have E : grpL k (n + 1) l = takeA k l :: grpL k n (dropA k l) := rfl
    rw [Nat.mul_succ] at hl
    rw [E, takeA_eq k l (by omega), dropA_eq]
    cases e with
    | zero => simp
    | succ e =>
      rw [List.getElem?_cons_succ, grpL_get k n (l.drop k) e (by simp; omega) (by omega), List.drop_drop, Nat.succ_mul, Nat.add_comm k]
theorem grpL_len (k : Nat) : ∀ (n : Nat) (l : List AV), (grpL k n l).length = n
  | 0, _ => rfl
  | n + 1, l => by
    have E : grpL k (n + 1) l = takeA k l :: grpL k n (dropA k l) := rfl
    rw [E, List.length_cons, grpL_len k n]
theorem push_ok {k : Nat} {l : List (List AV)} {tr0 : Bt} {n0 : Nat} (h0 : TrOK k n0 tr0) (hl : ∀ x ∈ l, x.length = k) : TrOK k (n0 + l.length) (pushB l n0 tr0) := by
  refine ⟨pushB_ok l n0 tr0 h0.ok, fun e he => ?_⟩
  rw [pushB_get l n0 tr0 e h0.ok]
  by_cases c : e < n0
  · rw [if_pos c]; exact h0.len e c
  · rw [if_neg c]
    have : e - n0 < l.length := by omega
    rw [List.getElem?_eq_getElem this]
    exact hl _ (List.getElem_mem this)
theorem TrOK.nil (k : Nat) : TrOK k 0 .e := ⟨rfl, fun e he => by omega⟩
theorem push_cell {k : Nat} {l : List (List AV)} {tr0 : Bt} {n0 : Nat} (h0 : TrOK k n0 tr0) (hk : 0 < k) (i : Nat) : cell k (pushB l n0 tr0) i = if i < n0 * k then cell k tr0 i else (((l[i / k - n0]?).getD [])[i % k]?).getD (.z 0) := by
  rw [cell_eq, pushB_get l n0 tr0 _ h0.ok]
  by_cases c : i < n0 * k
  · have : i / k < n0 := Nat.div_lt_of_lt_mul (by rw [Nat.mul_comm]; exact c)
    rw [if_pos this, if_pos c, cell_eq]
  · have : ¬ i / k < n0 := fun h => c (by have := (Nat.div_lt_iff_lt_mul hk).1 h; exact this)
    rw [if_neg this, if_neg c]
    cases e : l[i / k - n0]? with
    | some y => rfl
    | none =>
      have : tr0.get (i / k) = [] := Bt.get_out _ _ _ h0.ok (by omega)
      simp [this]
theorem grp_ok {k n : Nat} {l : List AV} (hk : 0 < k) (hl : l.length = k * n) : TrOK k n (pushB (grpL k n l) 0 .e) ∧ ∀ i, i < n * k → cell k (pushB (grpL k n l) 0 .e) i = (l[i]?).getD (.z 0) := by
  constructor
  · have := push_ok (TrOK.nil k) (l := grpL k n l) (fun x hx => by
      obtain ⟨e, he⟩ := List.getElem?_of_mem hx
      have hlt : e < n := by rw [← grpL_len k n l]; exact (List.getElem?_eq_some_iff.1 he).1
      rw [grpL_get k n l e hl hlt] at he
      injection he with he
      subst he
      have : (e + 1) * k ≤ n * k := Nat.mul_le_mul_right _ hlt
      rw [Nat.succ_mul] at this
      simp [Nat.mul_comm k] at hl ⊢; omega)
    rwa [grpL_len, Nat.zero_add] at this
  · intro i hi
    have hlt : i / k < n := Nat.div_lt_of_lt_mul (by rw [Nat.mul_comm]; exact hi)
    rw [push_cell (TrOK.nil k) hk, if_neg (by omega), Nat.sub_zero, grpL_get k n l _ hl hlt]
    have := Nat.div_add_mod i k
    rw [Nat.mul_comm] at this
    simp only [Option.getD_some, List.getElem?_take, if_pos (Nat.mod_lt i hk), List.getElem?_drop, this]
theorem repB_ok {k n : Nat} {z : List AV} (hk : 0 < k) (hz : z.length = k) : TrOK k n (repB z n) ∧ ∀ i, i < n * k → cell k (repB z n) i = (z[i % k]?).getD (.z 0) := by
  have aux : ∀ n j t, nR n (fun _ t => t) (fun _ ih j t => ih (Nat.succ j) (t.set z j)) j t = pushB (List.replicate n z) j t := by
    intro n
    induction n with
    | zero => intro j t; rfl
    | succ n ih => intro j t; rw [List.replicate_succ, pushB_cons]; exact ih (j + 1) (t.set z j)
  have E : repB z n = pushB (List.replicate n z) 0 .e := aux n 0 .e
  rw [E]
  constructor
  · have := push_ok (TrOK.nil k) (l := List.replicate n z) (fun x hx => by rw [List.eq_of_mem_replicate hx]; exact hz)
    simpa using this
  · intro i hi
    have hlt : i / k < n := Nat.div_lt_of_lt_mul (by rw [Nat.mul_comm]; exact hi)
    rw [push_cell (TrOK.nil k) hk, if_neg (by omega)]
    simp [hlt]
theorem cellsR_list {k n : Nat} {tr : Bt} {l : List AV} {cs : Array Value} (h : VRs ρ j l cs.toList) (hl : l.length = k * n) (ht : ∀ i, i < n * k → cell k tr i = (l[i]?).getD (.z 0)) : n * k ≤ cs.size ∧ CellsR ρ j k n tr cs 0 := by
  have := h.length
  refine ⟨by rw [Nat.mul_comm, ← hl, this]; simp, fun i hi => ?_⟩
  have hi' : i < l.length := by rw [hl, Nat.mul_comm]; exact hi
  obtain ⟨y, hy, hv⟩ := h.get i l[i] (List.getElem?_eq_getElem hi')
  refine ⟨y, by rw [Nat.zero_add, ← Array.getElem?_toList]; exact hy, ?_⟩
  rw [ht i hi, List.getElem?_eq_getElem hi']; exact hv
theorem newVar_alloc {t : TypeId} {k n : Nat} {l : List AV} {y : Value} (hk : 0 < k) (h : VRs ρ j l y.cells.toList) (hl : l.length = k * n) :
    AllocP P j ρ w (do pure (.pointer (some (← newVar t y)))) ptr0 k n (pushB (grpL k n l) 0 .e) := by
  obtain ⟨h1, h2⟩ := grp_ok hk hl
  obtain ⟨h3, h4⟩ := cellsR_list h hl h2
  refine ⟨hk, h1, .pointer (some ⟨w.heap.size, 0, none⟩), { w with heap := w.heap.push (.cells y.cells t) }, y.cells, t, (0, 0), ?_, rfl, rfl, rfl, rfl, .inl rfl, h3, h4, fun ρ' o _ e _ _ => ⟨VR.p (j := j) (f := 0) e, by intro h; cases h⟩⟩
  rfl
theorem aBox_ok {t : TypeId} {k n : Nat} {a : AV} {y : Value} (ha : VR ρ j a y) (e : aBox t k n a h = .ok u h') : aBox t k n a h = newc ptr0 t k n (pushB (grpL k n (cellsA a)) 0 .e) h ∧ AllocP P j ρ w (Instr.box t y) ptr0 k n (pushB (grpL k n (cellsA a)) 0 .e) := by
  have E : aBox t k n a h = bc (andB (Nat.beq (lenA (cellsA a)) (k * n)) (oneL (cellsA a))) (newc ptr0 t k n (pushB (grpL k n (cellsA a)) 0 .e) h) (.bad 12) := rfl
  rw [E] at e ⊢
  obtain ⟨hc, e⟩ := bcR e badNe
  have hk := (newc_inv e).1
  rw [hc, bc_t]
  rw [andB_eq, Bool.and_eq_true, beq_eq, decide_eq_true_eq, lenA_eq] at hc
  exact ⟨rfl, newVar_alloc hk (cells_ok ha hc.2) hc.1⟩
theorem aNew_ok {t : TypeId} {k n : Nat} {l : List AV} {z : Value} (hz : ∀ w, (zeroValue t).run P w = .ok z w) (hl : VRs ρ j l z.cells.toList) (hn : l.length = k * n) (e : aNew t k n (grpL k n l) h = .ok u h') (z0 : Value) :
    aNew t k n (grpL k n l) h = newc ptr0 t k n (pushB (grpL k n l) 0 .e) h ∧ AllocP P j ρ w (Instr.alloc t true z0) ptr0 k n (pushB (grpL k n l) 0 .e) := by
  refine ⟨rfl, ?_⟩
  have e : newc ptr0 t k n (pushB (grpL k n l) 0 .e) h = .ok u h' := e
  have := newVar_alloc (P := P) (w := w) (t := t) (y := z) (newc_inv e).1 hl hn
  have hs : (Instr.alloc t true z0).run P w = (do pure (.pointer (some (← newVar t z))) : Sem Value).run P w := by
    simp [Instr.alloc, hz]
  obtain ⟨a, b, c⟩ := this
  exact ⟨a, b, by rw [hs]; exact c⟩
end
end Go.Ev
end
section
namespace Go.Ev
open Go
section
variable {P : Program} {ρ : Rho} {j : Nat}
theorem rng_ok {k : IntKind} {z : Int} (h : rngB k z = true) : inR k z ∧ cvI k z = uOf k z := by
  cases z with
  | ofNat n =>
    have E : rngB k (.ofNat n) = Nat.ble (n + 1) (bc (Nat.ble 4 (kcode k)) (pw (kcode k)) (pw (kcode k) / 2)) := rfl
    rw [E, ble_eq, decide_eq_true_eq] at h
    have e2 : cvI k (.ofNat n) = n := rfl
    rw [e2]
    cases k <;> (simp only [kcode] at h; first | (have h : n + 1 ≤ 128 := h; skip) | (have h : n + 1 ≤ 32768 := h; skip) | (have h : n + 1 ≤ 2147483648 := h; skip) | (have h : n + 1 ≤ 9223372036854775808 := h; skip) | (have h : n + 1 ≤ 256 := h; skip) | (have h : n + 1 ≤ 65536 := h; skip) | (have h : n + 1 ≤ 4294967296 := h; skip) | (have h : n + 1 ≤ 18446744073709551616 := h; skip)) <;>
      (simp [inR, IntKind.min, IntKind.max, IntKind.signed, IntKind.bits, uOf]; omega)
  | negSucc n =>
    have E : rngB k (.negSucc n) = bc (Nat.ble 4 (kcode k)) false (Nat.ble (n + 1) (pw (kcode k) / 2)) := rfl
    rw [E] at h
    have e2 : cvI k (.negSucc n) = pw (kcode k) - (n + 1) := rfl
    rw [e2, pw_eq]
    cases k <;> simp only [kcode] at h <;> first | (exfalso; have h : false = true := h; cases h; done) | skip
    · have h : Nat.ble (n + 1) 128 = true := h
      rw [ble_eq, decide_eq_true_eq] at h
      simp [inR, IntKind.min, IntKind.max, IntKind.signed, IntKind.bits, uOf]; omega
    · have h : Nat.ble (n + 1) 32768 = true := h
      rw [ble_eq, decide_eq_true_eq] at h
      simp [inR, IntKind.min, IntKind.max, IntKind.signed, IntKind.bits, uOf]; omega
    · have h : Nat.ble (n + 1) 2147483648 = true := h
      rw [ble_eq, decide_eq_true_eq] at h
      simp [inR, IntKind.min, IntKind.max, IntKind.signed, IntKind.bits, uOf]; omega
    · have h : Nat.ble (n + 1) 9223372036854775808 = true := h
      rw [ble_eq, decide_eq_true_eq] at h
      simp [inR, IntKind.min, IntKind.max, IntKind.signed, IntKind.bits, uOf]; omega
theorem VRs.map {f : Value → AV} (hf : ∀ v, VR ρ j (f v) v) : ∀ l : List Value, VRs ρ j (l.map f) l
  | [] => .nil
  | v :: l => .cons (hf v) (VRs.map hf l)
theorem mkif_vr {t : Nat} {a : AV} {v : Value} (h : VR ρ j a v) : VR ρ j (mkif t a) (.iface t v) := by
  have E : mkif t a = bc (isTop a) top (.x 2 t [a]) := rfl
  rw [E]
  cases e : isTop a with
  | true => exact .top _
  | false => exact .ifc h fun hh => by rw [(isTop_eq a).2 hh] at e; cases e
theorem cvt_ok : ∀ (n : Nat) (v : Value), VR ρ j (cvt n v) v
  | 0, v => .top v
  | n + 1, v => by
    cases v with
    | bool b => exact .b b
    | int k z =>
      have E : cvt (n + 1) (.int k z) = bc (rngB k z) (.i (kcode k) (cvI k z)) top := rfl
      rw [E]
      cases h : rngB k z with
      | false => exact .top _
      | true =>
        obtain ⟨h1, h2⟩ := rng_ok h
        rw [bc_t, h2]; exact .i k z h1
    | string s => exact .s s
    | pointer a => cases a with
      | none => exact .pn
      | some a => exact .top _
    | slice a l c => cases a with
      | some a => exact .top _
      | none =>
        cases l with
        | zero => cases c with
          | zero => exact .sn
          | succ c => exact .top _
        | succ l => exact .top _
    | map r => cases r with
      | none => exact .mn
      | some r => exact .top _
    | nilFunc => exact .fnn
    | nilIface => exact .ifn
    | func f a c => cases f with
      | func f =>
        have E : cvt (n + 1) (.func (.func f) a c) = .x (10 + a.size) f ((a.toList ++ c.toList).map (cvt n)) := rfl
        rw [E]; exact .fn (VRs.map (cvt_ok n) _)
      | _ => exact .top _
    | iface t v => exact mkif_vr (cvt_ok n v)
    | agg cs => exact .agg (VRs.map (cvt_ok n) _)
    | tuple vs =>
      obtain ⟨l⟩ := vs
      cases l with
      | nil => exact .und
      | cons a l => exact .tup (VRs.map (cvt_ok n) _)
    | float k b => exact .top _
    | complex k a b => exact .top _
    | chan r => exact .top _
theorem cvt_cells (n : Nat) (v : Value) : VRs ρ j (cellsA (cvt (n + 1) v)) v.cells.toList := by
  have one : cellsA (cvt (n + 1) v) = [cvt (n + 1) v] → v.cells = #[v] → VRs ρ j (cellsA (cvt (n + 1) v)) v.cells.toList := by
    intro e e'
    rw [e, e']; exact .cons (cvt_ok _ _) .nil
  cases v with
  | agg cs => exact VRs.map (cvt_ok n) _
  | bool b => exact one rfl rfl
  | int k z =>
    refine one ?_ rfl
    have E : cvt (n + 1) (.int k z) = bc (rngB k z) (.i (kcode k) (cvI k z)) top := rfl
    rw [E]; cases rngB k z <;> rfl
  | string s => exact one rfl rfl
  | pointer a => cases a <;> exact one rfl rfl
  | slice a l c => cases a with
    | some a => exact one rfl rfl
    | none => cases l <;> cases c <;> exact one rfl rfl
  | map r => cases r <;> exact one rfl rfl
  | nilFunc => exact one rfl rfl
  | nilIface => exact one rfl rfl
  | func f a c => cases f with
    | func f =>
      refine one ?_ rfl
      have E : cvt (n + 1) (.func (.func f) a c) = .x (10 + a.size) f ((a.toList ++ c.toList).map (cvt n)) := rfl
      rw [E]
      have E : ∀ w t vs, cellsA (.x w t vs) = bc (Nat.beq w 0) vs [.x w t vs] := fun _ _ _ => rfl
      rw [E, beq_eq]
      have : ¬ 10 + a.size = 0 := by omega
      simp [bc]
    | _ => exact one rfl rfl
  | iface t v =>
    refine one ?_ rfl
    have E : cvt (n + 1) (.iface t v) = bc (isTop (cvt n v)) top (.x 2 t [cvt n v]) := rfl
    rw [E]; cases isTop (cvt n v) <;> rfl
  | tuple vs =>
    obtain ⟨l⟩ := vs
    cases l <;> exact one rfl rfl
  | float k b => exact one rfl rfl
  | complex k a b => exact one rfl rfl
  | chan r => exact one rfl rfl
theorem constE_flat (v : AV) (env : Env) (loc : List AV) : ev (constE v) env loc = v := by
  have natK_eq : ∀ {R : Type} (n : Nat) (f : Nat → R), natK n f = f n := fun n f => by cases n <;> rfl
  cases v with
  | i k u =>
    have E : constE (.i k u) = natK k (fun k => natK u (fun u => .c (.i k u))) := rfl
    rw [E, natK_eq, natK_eq]; rfl
  | b c => cases c <;> rfl
  | s l c =>
    have E : constE (.s l c) = natK l (fun l => natK c (fun c => .c (.s l c))) := rfl
    rw [E, natK_eq, natK_eq]; rfl
  | z w =>
    have E : constE (.z w) = natK w (fun w => .c (.z w)) := rfl
    rw [E, natK_eq]; rfl
  | _ => rfl
theorem zOK_inv {t : TypeId} (h : zOK P t = true) : ∃ i z, P.info? t = some i ∧ i.zero = some z ∧ i.bytes ≤ 65536 ∧ (zeroCs P t).length = i.size ∧ (∀ w, (zeroValue t).run P w = .ok z w) ∧ zeroV P t = cvt 5 z := by
  unfold zOK at h
  cases hi : P.info? t with
  | none => rw [hi] at h; cases h
  | some i =>
    rw [hi] at h
    simp only at h
    cases hz : i.zero with
    | none => rw [hz] at h; cases h
    | some z =>
      rw [hz] at h
      have h : andB (Nat.ble i.bytes 65536) (Nat.beq (lenA (zeroCs P t)) i.size) = true := h
      rw [andB_eq, ble_eq, beq_eq, Bool.and_eq_true, decide_eq_true_eq, decide_eq_true_eq, lenA_eq] at h
      refine ⟨i, z, rfl, hz, h.1, h.2, fun w => ?_, ?_⟩
      · simp [zeroValue, typeInfo, hi, hz]
      · unfold zeroV; rw [hi]; simp only; rw [hz]
theorem hasZ_inv {t : TypeId} (h : hasZ P t = true) : ∃ i z, P.info? t = some i ∧ i.zero = some z ∧ (∀ w, (zeroValue t).run P w = .ok z w) ∧ zeroV P t = cvt 5 z := by
  unfold hasZ at h
  cases hi : P.info? t with
  | none => rw [hi] at h; cases h
  | some i =>
    rw [hi] at h
    simp only at h
    cases hz : i.zero with
    | none => rw [hz] at h; cases h
    | some z =>
      refine ⟨i, z, rfl, hz, fun w => ?_, ?_⟩
      · simp [zeroValue, typeInfo, hi, hz]
      · unfold zeroV; rw [hi]; simp only; rw [hz]
theorem zeroCs_ok {t : TypeId} {z : Value} (h : zeroV P t = cvt 5 z) : VRs ρ j (zeroCs P t) z.cells.toList := by
  show VRs ρ j (cellsA (zeroV P t)) _
  rw [h]; exact cvt_cells 4 z
theorem szOf_eq {t : TypeId} {i : TypeInfo} (h : P.info? t = some i) : szOf P t = i.size := by unfold szOf; rw [h]
theorem undT_eq {t : TypeId} {D : TypeDesc} (h : P.underlying t = some D) : undT P t = D := by unfold undT; rw [h]
end
end Go.Ev
end
section
namespace Go.Ev
open Go
section
variable {P : Program} {ρ ρ' : Rho} {j B0 : Nat} {H H' : Array Obj} {w : World} {h h' : Hp} {u : AV}
def EmptyP (P : Program) (w : World) (s : Sem Value) : Prop := ∃ a o w', s.run P w = .ok (.slice (some a) 0 0) w' ∧ w'.os = w.os ∧ w'.output = w.output ∧ w'.tape = w.tape ∧ w'.heap = w.heap.push o
theorem EmptyP.does {s : Sem Value} (e : EmptyP P w s) (hr : HR P ρ j B0 h w.heap) : Does P j B0 s ρ w h (.z 3) := by
  obtain ⟨a, o, w', h0, h1, h2, h3, h4⟩ := e
  have := hr.push o
  exact ⟨_, w', ρ, h0, h1, h2, h3, by rw [h4]; exact this.2, by rw [h4]; exact this.1, .s0 a, by intro h; cases h⟩
def MakesP (P : Program) (j : Nat) (ρ : Rho) (w : World) (s : Sem Value) (q : Hp → Rs) (h : Hp) (t : Nat) (u : AV) (h' : Hp) : Prop :=
  (∃ r k n tr, (∃ a b, r = slN a b) ∧ q h = newc r t k n tr h ∧ AllocP P j ρ w s r k n tr) ∨ (u = .z 3 ∧ h' = h ∧ EmptyP P w s)
theorem MakesP.does {s : Sem Value} {q : Hp → Rs} {t : Nat} (m : MakesP P j ρ w s q h t u h') (e : q h = .ok u h') (hr : HR P ρ j B0 h w.heap) : Does P j B0 s ρ w h' u := by
  rcases m with ⟨r, k, n, tr, _, e1, a⟩ | ⟨rfl, rfl, a⟩
  · exact a.does hr (by rw [← e1]; exact e)
  · exact a.does hr
theorem natR {v : AV} {x : Value} {f : Nat → Rs} {d : Rs} (hv : VR ρ j v x) (e : natOf v d f = .ok u h') (hd : ∀ v h, d ≠ .ok v h) : ∃ k, ∃ n : Nat, x = .int k (n : Int) ∧ f n = .ok u h' := by
  cases v with
  | i k u0 =>
    have E : natOf (.i k u0) d f = bc (nn k u0) (f u0) d := rfl
    rw [E] at e
    obtain ⟨h1, e⟩ := bcR e hd
    have hn : natOf (.i k u0) top (fun n => .i 3 n) ≠ top := by
      show bc (nn k u0) (AV.i 3 u0) top ≠ top
      rw [h1]; intro h; cases h
    obtain ⟨K, n, hx, he⟩ := natOf_ok hv hn
    have : (AV.i 3 u0) = .i 3 n := by rw [← he]; show _ = bc (nn k u0) (AV.i 3 u0) top; rw [h1]; rfl
    injection this with _ this
    subst this
    exact ⟨K, u0, hx, e⟩
  | _ => exact absurd e (hd _ _)
theorem nCR {n : Nat} {d : Rs} {f : Nat → Rs} (e : nC n d f = .ok u h') : (n = 0 ∧ d = .ok u h') ∨ ∃ m, n = m + 1 ∧ f m = .ok u h' := by
  cases n with
  | zero => exact .inl ⟨rfl, e⟩
  | succ m => exact .inr ⟨m, rfl, e⟩
theorem wrap_small {n : Nat} (h : n ≤ 1048576) : IntKind.i64.wrap (n : Int) = n := by
  have := wrap_spec .i64 (n : Int)
  refine uOf_inj this.1 ?_ this.2
  simp [inR, IntKind.min, IntKind.max, IntKind.signed, IntKind.bits]; omega
theorem rows_cells {k n : Nat} {z : List AV} {zc : Array Value} (hk : 0 < k) (hz : VRs ρ j z zc.toList) (hl : z.length = k) : ((Array.range (n * k)).map (fun i => zc[i % zc.size]!)).size = n * k ∧ CellsR ρ j k n (repB z n) ((Array.range (n * k)).map (fun i => zc[i % zc.size]!)) 0 := by
  have hs : zc.size = k := by have := hz.length; rw [← hl, this]; simp
  refine ⟨by simp, fun i hi => ?_⟩
  have hm := Nat.mod_lt i hk
  have hi' : i % k < z.length := by rw [hl]; exact hm
  obtain ⟨y, hy, hv⟩ := hz.get (i % k) z[i % k] (List.getElem?_eq_getElem hi')
  refine ⟨y, ?_, by rw [(repB_ok hk hl).2 i hi, List.getElem?_eq_getElem hi']; exact hv⟩
  rw [Array.getElem?_toList] at hy
  have : i % k < zc.size := by rw [hs]; exact hm
  rw [Array.getElem?_eq_getElem this] at hy
  injection hy with hy
  have hb : zc[i % k]! = y := by rw [getElem!_pos zc (i % k) this]; exact hy
  simp [hi, hs, hb]
theorem aMks_ok {t e : TypeId} {la ca : AV} {lv cv : Value} (ht : P.underlying t = some (.slice e)) (hz : zOK P e = true) (hl : VR ρ j la lv) (hc : VR ρ j ca cv) (ee : aMks e (szOf P e) (zeroCs P e) la ca h = .ok u h') :
    MakesP P j ρ w (Instr.makeSlice t lv cv) (aMks e (szOf P e) (zeroCs P e) la ca) h e u h' := by
  obtain ⟨i, z, hi, hiz, hb, hlen, hzr, hzv⟩ := zOK_inv hz
  rw [szOf_eq hi] at ee ⊢
  have ee0 := ee
  obtain ⟨K, l, rfl, ee⟩ := natR hl ee badNe
  obtain ⟨K', c, rfl, ee⟩ := natR hc ee badNe
  obtain ⟨h1, ee⟩ := bcR ee badNe
  obtain ⟨h2, ee⟩ := bcR ee badNe
  rw [ble_eq, decide_eq_true_eq] at h1 h2
  have wl := wrap_small (n := l) (by omega)
  have wc := wrap_small h2
  have hsmall : ¬ (i.bytes : Int) * (c : Int) > 2 ^ 48 := by
    have : i.bytes * c ≤ 65536 * 1048576 := Nat.mul_le_mul hb h2
    have : ((i.bytes * c : Nat) : Int) ≤ ((65536 * 1048576 : Nat) : Int) := by exact_mod_cast this
    rw [Int.natCast_mul] at this
    have e : ((65536 * 1048576 : Nat) : Int) = 68719476736 := rfl
    rw [e] at this
    have e : (2 : Int) ^ 48 = 281474976710656 := rfl
    rw [e]; omega
  have run : ∀ w : World, (Instr.makeSlice t (.int K l) (.int K' c)).run P w = .ok (.slice (some ⟨w.heap.size, 0, none⟩) l c) { w with heap := w.heap.push (.cells ((Array.range (c * i.size)).map (fun q => (if c * i.size = 0 then #[] else z.cells)[q % (if c * i.size = 0 then #[] else z.cells).size]!)) e) } := by
    intro w
    have hti : ∀ w, (typeInfo e).run P w = .ok i w := fun w => by simp [typeInfo, hi]
    have c1 : (decide ((c : Int) < 0) || decide ((i.bytes : Int) * (c : Int) > 2 ^ 48)) = false := by
      simp only [Bool.or_eq_false_iff, decide_eq_false_iff_not]; exact ⟨by omega, hsmall⟩
    have c2 : (decide ((c : Int) < 0) || decide ((i.bytes : Int) * (c : Int) > 2 ^ 48) || decide ((l : Int) < 0) || decide ((l : Int) > c)) = false := by
      rw [c1]; simp; omega
    by_cases c0 : c * i.size = 0
    · simp only [Instr.makeSlice, Sem.run_bind, und_run ht, asInt, asIntOf, Result.andThen_ok, hti]
      simp only [Sem.run_pure, Result.andThen_ok, wl, wc, c2, Bool.false_eq_true, if_false, run_askRoom, Int.toNat_natCast, Sem.run_bind, size_run hi]
      rw [if_pos c0]
      simp only [c0, if_true]
      rfl
    · simp only [Instr.makeSlice, Sem.run_bind, und_run ht, asInt, asIntOf, Result.andThen_ok, hti]
      simp only [Sem.run_pure, Result.andThen_ok, wl, wc, c2, Bool.false_eq_true, if_false, run_askRoom, Int.toNat_natCast, Sem.run_bind, size_run hi]
      rw [if_neg c0]
      simp only [Sem.run_bind, hzr, Result.andThen_ok, c0, if_false]
      rfl
  rcases nCR ee with ⟨rfl, ee⟩ | ⟨c', rfl, ee⟩
  · injection ee with e1 e2
    obtain rfl : l = 0 := by omega
    exact .inr ⟨e1.symm, e2.symm, _, _, _, run w, rfl, rfl, rfl, rfl⟩
  · left
    have hk := (newc_inv ee).1
    refine ⟨_, _, _, _, ⟨_, _, rfl⟩, ee0.trans ee.symm, hk, (repB_ok hk hlen).1, ?_⟩
    have hne : ¬ (c' + 1) * i.size = 0 := fun h => by
      rcases Nat.mul_eq_zero.1 h with h | h <;> omega
    obtain ⟨s1, s2⟩ := rows_cells (n := c' + 1) hk (zeroCs_ok (ρ := ρ) (j := j) hzv) hlen
    refine ⟨_, _, _, _, _, run w, rfl, rfl, rfl, rfl, .inl rfl, ?_, ?_, fun ρ' o _ e _ _ => ⟨?_, by intro h; cases h⟩⟩
    · simp [hne]
    · simp only [hne, if_false]; exact s2
    · have : (2 * (c' + 1) + 1) / 2 = c' + 1 := by omega
      exact VR.sl (j := j) (f := 0) (c := 2 * (c' + 1) + 1) e (by omega) (fun _ => by omega) (by omega) (fun h => by omega)
end
end Go.Ev
end
section
namespace Go.Ev
open Go
section
variable {P : Program} {ρ ρ' : Rho} {j B0 : Nat} {H H' : Array Obj} {w : World} {h h' : Hp} {u : AV}
theorem foldl_set (off : Nat) : ∀ (l : List Value) (s : Nat) (a : Array Value), off + s + l.length ≤ a.size →
    ((l.zipIdx s).foldl (fun cs (c : Value × Nat) => cs.setIfInBounds (off + c.2) c.1) a).size = a.size ∧ ∀ q, ((l.zipIdx s).foldl (fun cs (c : Value × Nat) => cs.setIfInBounds (off + c.2) c.1) a)[q]? = if off + s ≤ q ∧ q < off + s + l.length then l[q - (off + s)]? else a[q]?
  | [], s, a, _ => ⟨rfl, fun q => by rw [if_neg (by simp)]; rfl⟩
  | v :: l, s, a, h => by
    rw [List.length_cons] at h
    rw [List.zipIdx_cons, List.foldl_cons]
    obtain ⟨h1, h2⟩ := foldl_set off l (s + 1) (a.setIfInBounds (off + s) v) (by simp; omega)
    refine ⟨by rw [h1]; simp, fun q => ?_⟩
    rw [h2 q, List.length_cons]
    by_cases c : off + (s + 1) ≤ q ∧ q < off + (s + 1) + l.length
    · rw [if_pos c, if_pos (by omega), show q - (off + s) = (q - (off + (s + 1))) + 1 by omega]; rfl
    · rw [if_neg c, Array.getElem?_setIfInBounds]
      by_cases c2 : off + s = q
      · subst c2; rw [if_pos rfl, if_pos (by omega), if_pos (by omega)]; simp
      · rw [if_neg c2, if_neg (by omega)]
theorem blit (off : Nat) (cs a : Array Value) (h : off + cs.size ≤ a.size) :
    (cs.zipIdx.foldl (fun cs (c : Value × Nat) => cs.setIfInBounds (off + c.2) c.1) a).size = a.size ∧ ∀ q, (cs.zipIdx.foldl (fun cs (c : Value × Nat) => cs.setIfInBounds (off + c.2) c.1) a)[q]? = if off ≤ q ∧ q < off + cs.size then cs[q - off]? else a[q]? := by
  have := foldl_set off cs.toList 0 a (by simpa using h)
  rw [← Array.foldl_toList, Array.toList_zipIdx]
  simpa using this
structure TreeR (ρ : Rho) (j k n : Nat) (tr : Bt) (cs : Array Value) : Prop where
  tr' : TrOK k n tr
  sz : cs.size = n * k
  cell' : ∀ i, i < n * k → ∃ v, cs[i]? = some v ∧ VR ρ j (cell k tr i) v
theorem TreeR.put {k n : Nat} {tr : Bt} {cs : Array Value} (t : TreeR ρ j k n tr cs) (hk : 0 < k) {q : Nat} (hq : q < n) {vs : List AV} {xs : Array Value} (hv : VRs ρ j vs xs.toList) (hl : vs.length = k) :
    TreeR ρ j k n (tr.set vs q) (xs.zipIdx.foldl (fun cs (c : Value × Nat) => cs.setIfInBounds (q * k + c.2) c.1) cs) ∧ q * k + xs.size ≤ cs.size := by
  have hx : xs.size = k := by have := hv.length; rw [← hl, this]; simp
  have hle : q * k + xs.size ≤ cs.size := by
    rw [t.sz, hx]
    have : (q + 1) * k ≤ n * k := Nat.mul_le_mul_right _ hq
    rwa [Nat.succ_mul] at this
  obtain ⟨h1, h2⟩ := blit (q * k) xs cs hle
  have hp := set_put t.tr' hk hl hq
  refine ⟨⟨hp.1, by rw [h1]; exact t.sz, fun i hi => ?_⟩, hle⟩
  rw [h2, hp.2 i hi, hl, hx]
  by_cases c : q * k ≤ i ∧ i < q * k + k
  · rw [if_pos c, if_pos c]
    have hi' : i - q * k < vs.length := by omega
    obtain ⟨y, hy, hr⟩ := hv.get (i - q * k) vs[i - q * k] (List.getElem?_eq_getElem hi')
    exact ⟨y, by rw [← Array.getElem?_toList]; exact hy, by rw [List.getElem?_eq_getElem hi']; exact hr⟩
  · rw [if_neg c, if_neg c]; exact t.cell' i hi
theorem andOf {a b : Bool} (h : andB a b = true) : a = true ∧ b = true := by rw [andB_eq, Bool.and_eq_true] at h; exact h
theorem lCR {l : List AV} {d : Rs} {f : AV → List AV → Rs} (e : lC l d f = .ok u h') (hd : ∀ v h, d ≠ .ok v h) : ∃ a r, l = a :: r ∧ f a r = .ok u h' := by
  cases l with
  | nil => exact absurd e (hd _ _)
  | cons a r => exact ⟨a, r, rfl, e⟩
theorem fillB_ok {k n : Nat} (hk : 0 < k) {d : Rs} {f : Bt → Rs} (hd : ∀ v h, d ≠ .ok v h) : ∀ (pl : List Nat) (vs : List AV) (xs : List Value) (tr : Bt) (cs : Array Value), pl.length = xs.length → (∀ q ∈ pl, q < n) → VRs ρ j vs xs → TreeR ρ j k n tr cs → fillB k d f pl vs tr = .ok u h' →
    ∃ tr' cs', f tr' = .ok u h' ∧ Instr.fill (fun i => some (i * k, k)) cs (pl.zip xs) = some cs' ∧ TreeR ρ j k n tr' cs'
  | [], vs, xs, tr, cs, hl, _, _, t, e => by
    have e : f tr = .ok u h' := e
    exact ⟨tr, cs, e, rfl, t⟩
  | q :: pl, vs, xs, tr, cs, hl, hq, hv, t, e => by
    obtain ⟨a, r, rfl, e⟩ := lCR (d := d) (f := fun v vs => bc (andB (Nat.beq (lenA (cellsA v)) k) (oneL (cellsA v))) (fillB k d f pl vs (tr.set (cellsA v) q)) d) e hd
    cases hv with
    | @cons _ x _ xs h hv =>
      obtain ⟨hc, e⟩ := bcR e hd
      obtain ⟨h1, h2⟩ := andOf hc
      rw [beq_eq, decide_eq_true_eq, lenA_eq] at h1
      have hcs := cells_ok h h2
      obtain ⟨t', hle⟩ := t.put hk (hq q (by simp)) hcs h1
      obtain ⟨tr', cs', g1, g2, g3⟩ := fillB_ok hk hd pl r xs _ _ (by simpa using hl) (fun y hy => hq y (by simp [hy])) hv t' e
      refine ⟨tr', cs', g1, ?_, g3⟩
      have hx : x.cells.size = k := by have := hcs.length; rw [h1] at this; simpa using this.symm
      simp only [List.zip_cons_cons, Instr.fill]
      rw [if_neg (by simp [hx]; rw [hx] at hle; exact hle)]
      exact g2
theorem allLt_inv {n : Nat} : ∀ {l : List Nat}, allLt n l = true → ∀ q ∈ l, q < n
  | [], _, q, hq => by cases hq
  | a :: l, h, q, hq => by
    obtain ⟨h1, h2⟩ := andOf h
    rw [ble_eq, decide_eq_true_eq] at h1
    rcases List.mem_cons.1 hq with rfl | hq
    · exact h1
    · exact allLt_inv h2 q hq
theorem aBsl_ok {t e n : Nat} {pl : List Nat} {vs : List AV} {xs : List Value} {q : Nat} (ht : P.underlying t = some (.slice e)) (hz : zOK P e = true) (hn : n * szOf P e ≤ 16777216) (hlt : allLt n pl = true) (hv : VRs ρ j vs xs) (hlen : pl.length = xs.length)
    (ee : aBsl e (szOf P e) n (zeroCs P e) pl (.x 1 q vs) h = .ok u h') : MakesP P j ρ w (Instr.buildSlice t n (pl.zip xs).toArray) (aBsl e (szOf P e) n (zeroCs P e) pl (.x 1 q vs)) h e u h' := by
  obtain ⟨i, z, hi, hiz, hb, hlen', hzr, hzv⟩ := zOK_inv hz
  rw [szOf_eq hi] at ee hn ⊢
  have ee0 := ee
  have run : ∀ cs', Instr.fill (fun q => some (q * i.size, i.size)) ((Array.range (n * i.size)).map (fun q => (if n * i.size = 0 then #[] else z.cells)[q % (if n * i.size = 0 then #[] else z.cells).size]!)) (pl.zip xs) = some cs' →
      ∀ w : World, (Instr.buildSlice t n (pl.zip xs).toArray).run P w = .ok (.slice (some ⟨w.heap.size, 0, none⟩) n n) { w with heap := w.heap.push (.cells cs' e) } := by
    intro cs' hf w
    have hsm : ¬ n * i.size > 2 ^ 24 := by omega
    by_cases c0 : n * i.size = 0
    · simp only [c0, if_true] at hf
      simp only [Instr.buildSlice, Sem.run_bind, und_run ht, Result.andThen_ok, size_run hi]
      rw [if_neg hsm]
      simp only [Sem.run_bind, Sem.run_pure, Result.andThen_ok, c0, if_true, hf]
      rfl
    · simp only [c0, if_false] at hf
      simp only [Instr.buildSlice, Sem.run_bind, und_run ht, Result.andThen_ok, size_run hi]
      rw [if_neg hsm]
      simp only [Sem.run_bind, Sem.run_pure, Result.andThen_ok, c0, if_false, hf, hzr]
      rfl
  have ee : nC n (.ok (.z 3) h) (fun n' => fillB i.size (.bad 14) (fun tr => newc (slN (n' + 1) (2 * (n' + 1) + 1)) e i.size (n' + 1) tr h) pl vs (repB (zeroCs P e) n)) = .ok u h' := ee
  rcases nCR ee with ⟨rfl, ee⟩ | ⟨n', rfl, ee⟩
  · injection ee with e1 e2
    have hpl : pl = [] := by
      cases pl with
      | nil => rfl
      | cons a l => have := allLt_inv hlt a (by simp); omega
    subst hpl
    have := run _ rfl w
    exact .inr ⟨e1.symm, e2.symm, _, _, _, this, rfl, rfl, rfl, rfl⟩
  · left
    obtain ⟨tr1, _, hnew, _, _⟩ : ∃ (tr1 : Bt) (c : Unit), newc (slN (n' + 1) (2 * (n' + 1) + 1)) e i.size (n' + 1) tr1 h = .ok u h' ∧ True ∧ True := by
      have : ∀ (pl : List Nat) (vs : List AV) (t0 : Bt), fillB i.size (.bad 14) (fun tr => newc (slN (n' + 1) (2 * (n' + 1) + 1)) e i.size (n' + 1) tr h) pl vs t0 = .ok u h' → ∃ tr1 : Bt, newc (slN (n' + 1) (2 * (n' + 1) + 1)) e i.size (n' + 1) tr1 h = .ok u h' := by
        intro pl
        induction pl with
        | nil => intro vs t0 e; exact ⟨t0, e⟩
        | cons q pl ih =>
          intro vs t0 e'
          obtain ⟨a, r, rfl, e'⟩ := lCR (d := .bad 14) (f := fun v vs => bc (andB (Nat.beq (lenA (cellsA v)) i.size) (oneL (cellsA v))) (fillB i.size (.bad 14) (fun tr => newc (slN (n' + 1) (2 * (n' + 1) + 1)) e i.size (n' + 1) tr h) pl vs (t0.set (cellsA v) q)) (.bad 14)) e' badNe
          obtain ⟨_, e'⟩ := bcR e' badNe
          exact ih r _ e'
      obtain ⟨a, b⟩ := this _ _ _ ee
      exact ⟨a, (), b, trivial, trivial⟩
    have hk := (newc_inv hnew).1
    have hne : ¬ (n' + 1) * i.size = 0 := fun h => by rcases Nat.mul_eq_zero.1 h with h | h <;> omega
    obtain ⟨s1, s2⟩ := rows_cells (n := n' + 1) hk (zeroCs_ok (ρ := ρ) (j := j) hzv) hlen'
    obtain ⟨tr', cs', g1, g2, g3⟩ := fillB_ok hk badNe pl vs xs _ _ hlen (allLt_inv hlt) hv ⟨(repB_ok hk hlen').1, s1, fun q hq => by have := s2 q hq; rwa [Nat.zero_add] at this⟩ ee
    refine ⟨_, _, _, _, ⟨_, _, rfl⟩, ee0.trans g1.symm, hk, g3.tr', ?_⟩
    refine ⟨_, _, _, _, _, run cs' (by simp only [hne, if_false]; exact g2) w, rfl, rfl, rfl, rfl, .inl rfl, by rw [g3.sz]; exact Nat.le_refl _, fun q hq => by rw [Nat.zero_add]; exact g3.cell' q hq, fun ρ' o _ e _ _ => ⟨?_, by intro h; cases h⟩⟩
    have : (2 * (n' + 1) + 1) / 2 = n' + 1 := by omega
    exact VR.sl (j := j) (f := 0) (c := 2 * (n' + 1) + 1) e (by omega) (fun _ => by omega) (by omega) (fun h => by omega)
end
end Go.Ev
end
section
namespace Go.Ev
open Go
section
variable {P : Program} {ρ ρ' : Rho} {j B0 : Nat} {H H' : Array Obj} {w : World} {h h' : Hp} {u : AV}
theorem load_upto {k N : Nat} {tr : Bt} {B X f n : Nat} (hm : MemR ρ j H k N tr B X) (hf : f + n ≤ N * k) :
    ∃ xs : List Value, xs.length = n ∧ VRs ρ j (cellsF k tr f n) xs ∧ ∀ m, m ≤ n → ∀ w : World, w.heap = H → (loadCells ⟨B, X + f, none⟩ m).run P w = .ok (xs.take m).toArray w := by
  obtain ⟨cs, hb, hx, hc⟩ := hm.ex
  have hlen : ((cs.toList.drop (X + f)).take n).length = n := by simp; omega
  refine ⟨(cs.toList.drop (X + f)).take n, hlen, ?_, ?_⟩
  · refine VRs.of_get (by rw [cellsF_len, hlen]) fun i a y h1 h2 => ?_
    have hi : i < n := by
      have := (List.getElem?_eq_some_iff.1 h1).1
      rwa [cellsF_len] at this
    rw [cellsF_get hi] at h1
    injection h1 with h1
    subst h1
    obtain ⟨v, e, r⟩ := hc (f + i) (by omega)
    rw [List.getElem?_take, if_pos hi, List.getElem?_drop, Array.getElem?_toList, show X + f + i = X + (f + i) by omega, e] at h2
    injection h2 with h2
    subst h2; exact r
  · intro m hmn w hw
    have := run_loadCells_list (P := P) w ⟨B, X + f, none⟩ (((cs.toList.drop (X + f)).take n).take m) fun i v e => by
      rw [addr_add, hb.cell hw]
      rw [List.take_take, List.getElem?_take] at e
      split at e
      · rw [List.getElem?_drop, Array.getElem?_toList] at e; exact e
      · cases e
    rwa [show (((cs.toList.drop (X + f)).take n).take m).length = m by rw [List.length_take, hlen]; omega] at this
theorem rdEls_ok {k N ko : Nat} {tr : Bt} (h : TrOK ko N tr) (hk : 0 < ko) : ∀ l off, off + l * k ≤ N * ko → (rdEls ko tr k l off).flatten = cellsF ko tr off (l * k) ∧ (rdEls ko tr k l off).length = l ∧ ∀ x ∈ rdEls ko tr k l off, x.length = k
  | 0, off, _ => ⟨by rw [Nat.zero_mul]; rfl, rfl, fun x hx => (by cases hx)⟩
  | l + 1, off, hle => by
    have E : rdEls ko tr k (l + 1) off = rd ko tr k off :: rdEls ko tr k l (off + k) := rfl
    rw [Nat.succ_mul] at hle
    obtain ⟨h1, h2, h3⟩ := rdEls_ok (k := k) h hk l (off + k) (by omega)
    rw [E, rd_eq h hk (by omega)]
    refine ⟨by rw [List.flatten_cons, h1, cellsF_app, Nat.succ_mul, Nat.add_comm k], by simp [h2], fun x hx => ?_⟩
    rcases List.mem_cons.1 hx with rfl | hx
    · exact cellsF_len _ _ _ _
    · exact h3 x hx
theorem oneLs_flat : ∀ {l : List (List AV)}, oneLs l = true → oneL l.flatten = true
  | [], _ => rfl
  | x :: l, h => by
    have h : bc (oneL x) (oneLs l) false = true := h
    cases hx : oneL x with
    | false => rw [hx] at h; cases h
    | true =>
      rw [hx] at h
      have ih := oneLs_flat (l := l) h
      have app : ∀ (a b : List AV), oneL a = true → oneL b = true → oneL (a ++ b) = true := by
        intro a b ha hb
        induction a with
        | nil => exact hb
        | cons y a iha =>
          have ha : bc (okC y) (oneL a) false = true := ha
          show bc (okC y) (oneL (a ++ b)) false = true
          cases hy : okC y with
          | false => rw [hy] at ha; cases ha
          | true => rw [hy] at ha; rw [bc_t]; exact iha ha
      rw [List.flatten_cons]; exact app x _ hx ih
structure ElsP (P : Program) (ρ : Rho) (j : Nat) (H : Array Obj) (k : Nat) (A : Option Addr) (l : Nat) (cap : Nat) (els : List (List AV)) (xs : List Value) : Prop where
  len : els.length = l
  one : ∀ x ∈ els, x.length = k
  vrs : VRs ρ j els.flatten xs
  cell1 : ∀ x ∈ xs, x.oneCell' = true
  xlen : xs.length = l * k
  run : ∀ n, n ≤ l → ∀ w : World, w.heap = H → (Builtin.firstCells k n (.slice A l cap)).run P w = .ok (xs.take (n * k)).toArray w
theorem ElsP.nil (k : Nat) (A : Option Addr) (cap : Nat) : ElsP P ρ j H k A 0 cap [] [] := by
  refine ⟨rfl, fun x hx => (by cases hx), .nil, fun x hx => (by cases hx), by simp, fun n hn w _ => ?_⟩
  obtain rfl : n = 0 := by omega
  cases A with
  | none => simp [Builtin.firstCells]
  | some a => simp [Builtin.firstCells, loadCells, loadCellsFrom]
theorem okEls_ok {l : List (List AV)} {d : Rs} {f : List (List AV) → Rs} (e : okEls l d f = .ok u h') (hd : ∀ v h, d ≠ .ok v h) : oneLs l = true ∧ f l = .ok u h' := by
  have e : bc (oneLs l) (f l) d = .ok u h' := e
  exact bcR e hd
theorem els_mem {k ko n o' off l cap B X : Nat} {tr : Bt} {w' : Bool} {ms : List Me} {o : Ps} (cr : CR ρ j B0 H o ko w' ms) (hm : Me.mk o' n tr ∈ ms) (hl : ρ o o' = some (B, X)) (hle : off + l * k ≤ n * ko) (h1 : oneLs (rdEls ko tr k l off) = true) :
    ∃ xs, ElsP P ρ j H k (some ⟨B, X + off, none⟩) l cap (rdEls ko tr k l off) xs := by
  have tr' : TrOK ko n tr := cr.tr _ hm
  have mem : MemR ρ j H ko n tr B X := cr.mem _ hm B X hl
  obtain ⟨e1, e2, e3⟩ := rdEls_ok tr' cr.pos l off hle
  obtain ⟨xs, hlen, hvs, hrun⟩ := load_upto (P := P) mem hle
  rw [← e1] at hvs
  refine ⟨xs, e2, e3, hvs, oneL_one (oneLs_flat h1) hvs, hlen, fun m hm w hw => ?_⟩
  have := hrun (m * k) (Nat.mul_le_mul_right _ hm) w hw
  simpa [Builtin.firstCells] using this
theorem elsOf_ok {k c : Nat} {v : AV} {x : Value} {f : List (List AV) → Rs} (hr : HR P ρ j B0 h w.heap) (hv : VR ρ j v x) (e : elsOf h k v (.bad c) f = .ok u h') :
    ∃ A l cap els xs, x = .slice A l cap ∧ ElsP P ρ j w.heap k A l cap els xs ∧ f els = .ok u h' := by
  cases v with
  | sl o m off l c' =>
    have e : nC l (f []) (fun _ => Ob.cC (h.ob o) (.bad c) fun _ ko _ ms => findM m (.bad c) (fun n tr => bc (Nat.ble (off + l * k) (n * ko)) (okEls (rdEls ko tr k l off) (.bad c) f) (.bad c)) ms) = .ok u h' := e
    rcases nCR e with ⟨rfl, e⟩ | ⟨l', hl', e⟩
    · cases hv with
      | sl _ _ _ _ => exact ⟨_, 0, _, [], [], rfl, .nil _ _ _, e⟩
      | sl0 _ _ => exact ⟨_, 0, _, [], [], rfl, .nil _ _ _, e⟩
    · obtain ⟨t, ko, w', ms, ho, e⟩ := cC_ok e badNe
      obtain ⟨⟨id, n, tr⟩, hm, hid, e2⟩ := findM_ok e badNe
      obtain ⟨hle, e3⟩ := bcR e2 badNe
      obtain ⟨h1, e4⟩ := okEls_ok e3 badNe
      obtain rfl : id = m := hid
      rw [ble_eq, decide_eq_true_eq] at hle
      cases hv with
      | sl hl _ _ _ =>
        obtain ⟨xs, hx⟩ := els_mem (P := P) (cap := _) (hr.cr ho) hm hl hle h1
        exact ⟨_, l, _, _, xs, rfl, hx, e4⟩
      | sl0 _ _ => omega
  | z q =>
    have e : bc (Nat.beq q 2) (f []) (bc (Nat.beq q 3) (f []) (.bad c)) = .ok u h' := e
    rw [beq_eq, beq_eq] at e
    by_cases h2 : q = 2
    · subst h2
      cases hv with
      | sn => exact ⟨_, 0, _, [], [], rfl, .nil _ _ _, e⟩
    · by_cases h3 : q = 3
      · subst h3
        cases hv with
        | s0 => exact ⟨_, 0, _, [], [], rfl, .nil _ _ _, e⟩
      · simp only [h2, h3, decide_false, bc_f] at e; cases e
  | _ => cases e
theorem strOf_ok {d : Rs} {f : Nat → Nat → Rs} (hd : ∀ v h, d ≠ .ok v h) : ∀ (els : List (List AV)) (xs : List Value) (l c : Nat) (bs : List UInt8), (∀ x ∈ els, x.length = 1) → VRs ρ j els.flatten xs → l = bs.length → c = strC bs 0 → lR els f (fun x _ ih l c => lC x d fun v _ => AV.cI v d fun k u => bc (Nat.beq k 4) (ih (Nat.succ l) (Nat.add (Nat.mul c 256) u)) d) l c = .ok u h' →
    ∃ cs : List UInt8, xs = cs.map (fun b => .int .u8 (b.toNat : Int)) ∧ f (bs ++ cs).length (strC (bs ++ cs) 0) = .ok u h'
  | [], xs, l, c, bs, _, hv, hl, hc, e => by
    have e : f l c = .ok u h' := e
    cases hv
    subst hl; subst hc
    exact ⟨[], rfl, by simpa using e⟩
  | x :: els, xs, l, c, bs, h1, hv, hl, hc, e => by
    have hx := h1 x (by simp)
    obtain ⟨a, rfl⟩ : ∃ a, x = [a] := by
      cases x with
      | nil => simp at hx
      | cons a t => cases t with
        | nil => exact ⟨a, rfl⟩
        | cons b t => simp at hx
    rw [List.flatten_cons, List.singleton_append] at hv
    cases hv with
    | @cons _ y _ ys hy hv =>
      cases a with
      | i k u0 =>
        have e : bc (Nat.beq k 4) (lR els f (fun x _ ih l c => lC x d fun v _ => AV.cI v d fun k u => bc (Nat.beq k 4) (ih (Nat.succ l) (Nat.add (Nat.mul c 256) u)) d) (l + 1) (c * 256 + u0)) d = .ok u h' := e
        obtain ⟨h4, e⟩ := bcR e hd
        rw [beq_eq, decide_eq_true_eq] at h4
        obtain ⟨K, z, hz, h5, h6, rfl⟩ := hy.int
        have hK : K = .u8 := kcode_inj (by rw [← h5, h4]; rfl)
        subst hK
        have hz' : 0 ≤ z ∧ z ≤ 255 := by
          obtain ⟨a, b⟩ := hz
          simp [IntKind.min, IntKind.max, IntKind.signed, IntKind.bits] at a b
          omega
        obtain ⟨n, rfl⟩ := Int.eq_ofNat_of_zero_le hz'.1
        have hu : u0 = n := by
          rw [h6]; simp [uOf, IntKind.bits]; omega
        have hn : (UInt8.ofNat n).toNat = n := by simp; omega
        obtain ⟨cs, hcs, hf⟩ := strOf_ok hd els ys (l + 1) (c * 256 + u0) (bs ++ [UInt8.ofNat n]) (fun x hx => h1 x (by simp [hx])) hv (by simp [hl]) (by rw [strC_append, hc, hu]; simp [strC, hn]) e
        refine ⟨UInt8.ofNat n :: cs, by rw [hcs]; simp; omega, by simpa using hf⟩
      | _ => exact absurd e (hd _ _)
theorem push_bytes : ∀ (cs : List UInt8) (s : ByteArray), ((cs.map (fun b => (b.toNat : Int))).foldl (fun r n => r.push (UInt8.ofNat n.toNat)) s).data.toList = s.data.toList ++ cs
  | [], s => by simp
  | b :: cs, s => by
    rw [List.map_cons, List.foldl_cons, push_bytes cs]
    simp [ByteArray.push]
theorem aB2s_of {v : Value} {els els' : List (List AV)} {xs : List Value} {A : Option Addr} {l cap : Nat} (hA : v = .slice A l cap) (ep : ElsP P ρ j w.heap 1 A l cap els xs) (h1 : ∀ x ∈ els', x.length = 1) (hv : VRs ρ j els'.flatten xs) (e : strOf els' (Rs.bad 50) (fun l c => Rs.ok (mkS l c) h) = Rs.ok u h') : h' = h ∧ u ≠ top ∧ ∃ z, (Conv.bytesToString v).run P w = .ok z w ∧ VR ρ j u z := by
  subst hA
  obtain ⟨cs, hcs, hf⟩ := strOf_ok badNe els' xs 0 0 [] h1 hv rfl rfl e
  injection hf with e1 e2
  refine ⟨e2.symm, (by rw [← e1]; intro h; cases h), ?_⟩
  rw [List.nil_append] at e1
  cases A with
  | none =>
    have hl : l = 0 := by
      have := ep.run l (Nat.le_refl _) w rfl
      have h2 := ep.xlen
      simp [Builtin.firstCells] at this
      rcases this with h | h
      · exact h
      · rw [h] at h2; simpa using h2.symm
    have : cs = [] := by
      have := ep.xlen
      rw [hl, hcs] at this; simpa using this
    subst this
    exact ⟨.string .empty, by simp [Conv.bytesToString], by rw [← e1]; exact .mkS rfl rfl⟩
  | some a =>
    have hrun := ep.run l (Nat.le_refl _) w rfl
    have hrun : (loadCells a l).run P w = .ok (xs.take l).toArray w := by simpa [Builtin.firstCells] using hrun
    rw [List.take_of_length_le (by rw [ep.xlen]; omega), hcs] at hrun
    refine ⟨_, run_bytesToString w a l cap (cs.map fun b => (b.toNat : Int)) (by rw [List.map_map]; exact hrun), ?_⟩
    rw [← e1]
    refine .mkS ?_ ?_ <;> (unfold bl; rw [push_bytes]; simp)
theorem selA_ok {a : AV} {x : Value} (h : VR ρ j a x) : VR ρ j (selA j a) x := by
  have E : selA j a = bc (isL a) (nthA j (lsOf a)) a := rfl
  rw [E]
  cases hL : isL a with
  | false => exact h
  | true =>
    obtain ⟨b, hb, hv⟩ := isL_lane hL h
    rw [bc_t, nthA_eq, hb]; exact hv
theorem selVs_ok : ∀ {l : List AV} {xs : List Value}, VRs ρ j l xs → VRs ρ j (mapA (selA j) l) xs
  | [], _, h => h
  | a :: l, _, h => by
    cases h with
    | cons h1 h2 => exact .cons (selA_ok h1) (selVs_ok h2)
theorem selE_flat (i : Nat) : ∀ els : List (List AV), (selE i els).flatten = mapA (selA i) els.flatten
  | [] => rfl
  | x :: els => by
    have E : selE i (x :: els) = mapA (selA i) x :: selE i els := rfl
    rw [E, List.flatten_cons, List.flatten_cons, selE_flat i els, mapA_eq, mapA_eq, mapA_eq, List.map_append]
theorem selE_one {i k : Nat} : ∀ {els : List (List AV)}, (∀ x ∈ els, x.length = k) → ∀ x ∈ selE i els, x.length = k
  | [], _, _, h => by cases h
  | y :: els, h, x, hx => by
    have E : selE i (y :: els) = mapA (selA i) y :: selE i els := rfl
    rw [E] at hx
    rcases List.mem_cons.1 hx with rfl | hx
    · rw [mapA_eq, List.length_map]; exact h y (by simp)
    · exact selE_one (fun x hx => h x (by simp [hx])) x hx
theorem lenA_len : ∀ l : List AV, lenA l = l.length
  | [] => rfl
  | _ :: l => by
    have E := lenA_len l
    show Nat.succ (lenA l) = _
    rw [E]; rfl
theorem laneN_lt : ∀ {els : List (List AV)} {xs : List Value} {n : Nat}, VRs ρ j els.flatten xs → laneN els = n + 1 → j < n + 1
  | [], _, _, _, e => by cases e
  | [] :: els, xs, n, hv, e => laneN_lt (els := els) hv e
  | (a :: r) :: els, xs, n, hv, e => by
    have e : bc (isL a) (lenA (lsOf a)) (laneN els) = n + 1 := e
    rw [List.flatten_cons, List.cons_append] at hv
    cases hv with
    | cons h1 h2 =>
      cases hL : isL a with
      | true =>
        rw [hL, bc_t, lenA_len] at e
        obtain ⟨b, hb, _⟩ := isL_lane hL h1
        rw [← e]; exact (List.getElem?_eq_some_iff.1 hb).1
      | false =>
        rw [hL, bc_f] at e
        have h3 := h2.drop r.length
        rw [List.drop_left] at h3
        exact laneN_lt h3 e
theorem strL_at (h : Hp) (els : List (List AV)) : ∀ (n i q : Nat), q < n → (strL h els n i)[q]? = some (strA h (selE (i + q) els))
  | 0, _, q, hq => by omega
  | n + 1, i, 0, _ => rfl
  | n + 1, i, q + 1, hq => by
    have E : strL h els (n + 1) i = strA h (selE i els) :: strL h els n (i + 1) := rfl
    rw [E, List.getElem?_cons_succ, strL_at h els n (i + 1) q (by omega)]
    congr 3; omega
theorem aB2s_ok {x : AV} {v : Value} (hr : HR P ρ j B0 h w.heap) (hx : VR ρ j x v) (e : aB2s x h = .ok u h') : h' = h ∧ u ≠ top ∧ ∃ z, (Conv.bytesToString v).run P w = .ok z w ∧ VR ρ j u z := by
  have e : elsOf h 1 x (Rs.bad 49) (fun els => aB2s2 els h (laneN els)) = Rs.ok u h' := e
  obtain ⟨A, l, cap, els, xs, hA, ep, e⟩ := elsOf_ok hr hx e
  cases hn : laneN els with
  | zero =>
    rw [hn] at e
    exact aB2s_of hA ep ep.one ep.vrs e
  | succ n =>
    rw [hn] at e
    have e : rsV 50 (normL (strL h els (n + 1) 0)) h = .ok u h' := e
    obtain ⟨hne, rfl, rfl⟩ := rsV_ok e
    have hj := laneN_lt ep.vrs hn
    have hq := strL_at h' els (n + 1) 0 j hj
    rw [Nat.zero_add] at hq
    obtain ⟨h1, h2⟩ := normL_ok (ρ := ρ) hne hq
    have S : strA h' (selE j els) = Rs.cs (strOf (selE j els) (.bad 50) fun l c => .ok (mkS l c) h') (fun _ => top) (fun v _ => v) := rfl
    cases hs : strOf (selE j els) (Rs.bad 50) fun l c => Rs.ok (mkS l c) h' with
    | bad q => rw [S, hs] at h1; exact absurd rfl h1
    | ok y h3 =>
      have hv : VRs ρ j (selE j els).flatten xs := by rw [selE_flat]; exact selVs_ok ep.vrs
      obtain ⟨_, _, z, hz, hvr⟩ := aB2s_of hA ep (selE_one ep.one) hv hs
      have : strA h' (selE j els) = y := by rw [S, hs]; rfl
      exact ⟨rfl, hne, z, hz, h2 z (by rw [this]; exact hvr)⟩
end
end Go.Ev
end
section
namespace Go.Ev
open Go
section
variable {P : Program} {ρ ρ' : Rho} {j B0 : Nat} {H H' : Array Obj} {w : World} {h h' : Hp} {u : AV}
inductive SrcP (P : Program) (H : Array Obj) (i : TypeInfo) (z : Value) (tx : TypeId) (x : Value) (n : Nat) (xs : List Value) : Prop
  | sl (e' : TypeId) (hk : P.underlying tx = some (.slice e')) (len : ∀ w : World, (Builtin.lenOf x).run P w = .ok n w) (cells : ∀ w : World, w.heap = H → (Builtin.firstCells i.size n x).run P w = .ok xs.toArray w)
  | str (hk : P.underlying tx = some .string) (len : ∀ w : World, (Builtin.lenOf x).run P w = .ok n w) (cells : ∀ w : World, w.heap = H → (Builtin.firstCells i.size n x).run P w = .ok xs.toArray w)
  | zs (k k' : IntKind) (hk : P.underlying tx = some (.int k')) (hx : x = .int k (n : Int)) (hn : n ≤ 1048576) (hxs : xs.toArray = if n * i.size = 0 then #[] else Builtin.zeroCells z.cells n)
theorem grown_ge {w : World} {need old : Nat} {e : TypeId} (_h : need ≤ 2 ^ 62) : need ≤ grownCap w need old e := by
  unfold grownCap Question.cut
  simp
theorem append_grow {t tx ty e : TypeId} {i : TypeInfo} {z : Value} (ht : P.underlying t = some (.slice e)) (hi : P.info? e = some i) (hz : i.zero = some z) (hb : i.bytes ≤ 65536) {base : Option Addr} {sLen sCap : Nat} {olds : List Value}
    (hold : ∀ w0 : World, w0.heap = w.heap → (Builtin.firstCells i.size sLen (.slice base sLen sCap)).run P w0 = .ok olds.toArray w0) {x : Value} {n : Nat} {news : List Value} (hs : SrcP P w.heap i z tx x n news) (hg : sCap < sLen + n) (hsm : sLen + n ≤ 1048576) :
    ∃ c w', sLen + n ≤ c ∧ (Builtin.append_ #[t, tx] ty #[.slice base sLen sCap, x]).run P w = .ok (.slice (some ⟨w.heap.size, 0, none⟩) (sLen + n) c) w' ∧ w'.os = w.os ∧ w'.output = w.output ∧ w'.tape = w.tape ∧
      w'.heap = w.heap.push (.cells (olds.toArray ++ news.toArray ++ Builtin.zeroCells z.cells (c - (sLen + n))) e) := by
  have hn : ¬ (sLen + n ≤ sCap) := by omega
  have h63' : ¬ (9223372036854775807 < ((sLen : Int) + (n : Int))) := by omega
  have hnext : Builtin.nextslicecap (sLen + n) sCap ≤ 16777216 := by
    have g : ∀ r c, c ≤ 16777216 / 4 ^ r → r ≤ 4 → Builtin.growBy (sLen + n) r c ≤ 16777216 := by
      intro r c h1 h2
      unfold Builtin.nextslicecap at *
      rcases r with _ | _ | _ | _ | _ | r
      · simpa [Builtin.growBy] using h1
      · simp only [Builtin.growBy]; split <;> omega
      · simp only [Builtin.growBy]; split <;> (try split) <;> omega
      · simp only [Builtin.growBy]; split <;> (try split) <;> (try split) <;> omega
      · simp only [Builtin.growBy]; split <;> (try split) <;> (try split) <;> (try split) <;> omega
      · omega
    unfold Builtin.nextslicecap
    split
    · omega
    · split
      · omega
      · have : ∀ c, c ≤ 1048576 → Builtin.growBy (sLen + n) 4 c ≤ 16777216 := by
          intro c hc
          simp only [Builtin.growBy]
          split <;> (try split) <;> (try split) <;> (try split) <;> omega
        exact this sCap (by omega)
  have h48' : ¬ (281474976710656 < Builtin.nextslicecap (sLen + n) sCap * i.bytes) := by
    have : Builtin.nextslicecap (sLen + n) sCap * i.bytes ≤ 16777216 * 65536 := Nat.mul_le_mul hnext hb
    omega
  refine ⟨grownCap w (sLen + n) sCap e, w.drew.alloc (.cells (olds.toArray ++ news.toArray ++ Builtin.zeroCells z.cells (grownCap w (sLen + n) sCap e - (sLen + n))) e), grown_ge (by omega), ?_, rfl, rfl, rfl, rfl⟩
  have hd : (Builtin.firstCells i.size sLen (.slice base sLen sCap)).run P w.drew = .ok olds.toArray w.drew := hold w.drew rfl
  cases hs with
  | sl e' hk len cells =>
    have c1 := cells w.drew rfl
    simp [Builtin.append_, run_underlying ht, run_underlying hk, sizeOf, typeInfo, zeroValue, hi, hz, len, hn, h63', h48', Question.forced, c1, hd, newRow, grownCap]
    congr 2
    apply Array.ext'
    simp [List.append_assoc]
  | str hk len cells =>
    have c1 := cells w.drew rfl
    simp [Builtin.append_, run_underlying ht, run_underlying hk, sizeOf, typeInfo, zeroValue, hi, hz, len, hn, h63', h48', Question.forced, c1, hd, newRow, grownCap]
    congr 2
    apply Array.ext'
    simp [List.append_assoc]
  | zs k k' hk hx hn' hxs =>
    subst hx
    have wn := wrap_small hn'
    have hb2 : ¬ (281474976710656 < (n : Int) * (i.bytes : Int)) := by
      have : n * i.bytes ≤ 1048576 * 65536 := Nat.mul_le_mul hn' hb
      have : ((n * i.bytes : Nat) : Int) ≤ ((1048576 * 65536 : Nat) : Int) := by exact_mod_cast this
      rw [Int.natCast_mul] at this
      have e : ((1048576 * 65536 : Nat) : Int) = 68719476736 := rfl
      rw [e] at this
      omega
    have hneg : ¬ ((n : Int) < 0) := by omega
    by_cases h0 : n * i.size = 0
    · rw [if_pos h0] at hxs
      simp [Builtin.append_, run_underlying ht, run_underlying hk, sizeOf, typeInfo, zeroValue, hi, hz, hn, h63', h48', Question.forced, hd, newRow, grownCap, asInt, asIntOf, wn, hb2, hneg, hxs, h0]
    · rw [if_neg h0] at hxs
      simp [Builtin.append_, run_underlying ht, run_underlying hk, sizeOf, typeInfo, zeroValue, hi, hz, hn, h63', h48', Question.forced, hd, newRow, grownCap, asInt, asIntOf, wn, hb2, hneg, hxs, h0]
theorem append_room {t tx ty e : TypeId} {i : TypeInfo} {z : Value} (ht : P.underlying t = some (.slice e)) (hi : P.info? e = some i) (hz : i.zero = some z) (hb : i.bytes ≤ 65536) {B X sLen sCap : Nat} {x : Value} {n : Nat} {news : List Value} (hs : SrcP P w.heap i z tx x n news)
    (hg : sLen + n ≤ sCap) {H' : Array Obj} (hst : ∀ w0 : World, w0.heap = w.heap → (storeCells ⟨B, X + sLen * i.size, none⟩ news 0).run P w0 = .ok () { w0 with heap := H' }) :
    (Builtin.append_ #[t, tx] ty #[.slice (some ⟨B, X, none⟩) sLen sCap, x]).run P w = .ok (.slice (some ⟨B, X, none⟩) (sLen + n) sCap) { w with heap := H' } := by
  have hst := hst w rfl
  cases hs with
  | sl e' hk len cells =>
    have c1 := cells w rfl
    simp [Builtin.append_, run_underlying ht, run_underlying hk, sizeOf, typeInfo, hi, len, hg, c1, addr_add, hst]
  | str hk len cells =>
    have c1 := cells w rfl
    simp [Builtin.append_, run_underlying ht, run_underlying hk, sizeOf, typeInfo, hi, len, hg, c1, addr_add, hst]
  | zs k k' hk hx hn' hxs =>
    subst hx
    have wn := wrap_small hn'
    have hb2 : ¬ (281474976710656 < (n : Int) * (i.bytes : Int)) := by
      have : n * i.bytes ≤ 1048576 * 65536 := Nat.mul_le_mul hn' hb
      have : ((n * i.bytes : Nat) : Int) ≤ ((1048576 * 65536 : Nat) : Int) := by exact_mod_cast this
      rw [Int.natCast_mul] at this
      have e : ((1048576 * 65536 : Nat) : Int) = 68719476736 := rfl
      rw [e] at this
      omega
    have hneg : ¬ ((n : Int) < 0) := by omega
    by_cases h0 : n * i.size = 0
    · rw [if_pos h0] at hxs
      have hnil : news = [] := by simpa using congrArg Array.toList hxs
      subst hnil
      simp [Builtin.append_, run_underlying ht, run_underlying hk, sizeOf, typeInfo, zeroValue, hi, hz, hg, asInt, asIntOf, wn, hb2, hneg, h0, addr_add, hst]
    · rw [if_neg h0] at hxs
      have htl : (Builtin.zeroCells z.cells n).toList = news := by rw [← hxs]
      simp [Builtin.append_, run_underlying ht, run_underlying hk, sizeOf, typeInfo, zeroValue, hi, hz, hg, asInt, asIntOf, wn, hb2, hneg, h0, addr_add, htl, hst]
end
end Go.Ev
end
section
namespace Go.Ev
open Go
section
variable {P : Program} {ρ ρ' : Rho} {j B0 : Nat} {H H' : Array Obj} {w : World} {h h' : Hp} {u : AV}
theorem flat_get {α : Type} {k : Nat} (hk : 0 < k) : ∀ (ls : List (List α)) (i : Nat), (∀ x ∈ ls, x.length = k) → ls.flatten[i]? = ((ls[i / k]?).getD [])[i % k]?
  | [], i, _ => by simp
  | x :: ls, i, h => by
    have hx := h x (by simp)
    rw [List.flatten_cons]
    by_cases c : i < k
    · rw [List.getElem?_append_left (by omega), Nat.div_eq_of_lt c, Nat.mod_eq_of_lt c]; rfl
    · rw [List.getElem?_append_right (by omega), flat_get hk ls _ (fun y hy => h y (by simp [hy])), hx]
      have e1 : i / k = (i - k) / k + 1 := by
        conv => lhs; rw [show i = (i - k) + k by omega]
        rw [Nat.add_div_right _ hk]
      have e2 : i % k = (i - k) % k := by
        conv => lhs; rw [show i = (i - k) + k by omega]
        rw [Nat.add_mod_right]
      rw [e1, e2]; rfl
theorem flat_len {α : Type} {k : Nat} : ∀ (ls : List (List α)), (∀ x ∈ ls, x.length = k) → ls.flatten.length = ls.length * k
  | [], _ => by simp
  | x :: ls, h => by
    rw [List.flatten_cons, List.length_append, flat_len ls (fun y hy => h y (by simp [hy])), h x (by simp), List.length_cons, Nat.succ_mul, Nat.add_comm]
theorem push_flat {k n0 : Nat} {tr0 : Bt} {l : List (List AV)} (h0 : TrOK k n0 tr0) (hk : 0 < k) (hl : ∀ x ∈ l, x.length = k) (i : Nat) : cell k (pushB l n0 tr0) i = if i < n0 * k then cell k tr0 i else (l.flatten[i - n0 * k]?).getD (.z 0) := by
  rw [push_cell h0 hk]
  by_cases c : i < n0 * k
  · rw [if_pos c, if_pos c]
  · rw [if_neg c, if_neg c, flat_get hk l _ hl]
    have e1 : i / k = (i - n0 * k) / k + n0 := by
      conv => lhs; rw [show i = (i - n0 * k) + n0 * k by omega]
      rw [Nat.add_mul_div_right _ _ hk]
    have e2 : i % k = (i - n0 * k) % k := by
      conv => lhs; rw [show i = (i - n0 * k) + n0 * k by omega]
      rw [Nat.add_mul_mod_self_right]
    rw [e1, e2, Nat.add_sub_cancel]
structure NewP (ρ : Rho) (j k n : Nat) (new : List (List AV)) (xs : List Value) : Prop where
  len : new.length = n
  one : ∀ x ∈ new, x.length = k
  vrs : VRs ρ j new.flatten xs
  cell1 : ∀ x ∈ xs, x.oneCell' = true
theorem NewP.xlen {k n : Nat} {new : List (List AV)} {xs : List Value} (p : NewP ρ j k n new xs) : xs.length = n * k := by
  rw [← p.vrs.length, flat_len new p.one, p.len]
theorem strEls_flat {bs : List UInt8} : ∀ n, n ≤ bs.length → (strEls (strC bs 0) n).flatten = (bs.drop (bs.length - n)).map (fun b => AV.i 4 b.toNat) ∧ (strEls (strC bs 0) n).length = n ∧ ∀ x ∈ strEls (strC bs 0) n, x.length = 1
  | 0, _ => ⟨by rw [show strEls (strC bs 0) 0 = [] from rfl]; simp, rfl, fun x hx => by cases hx⟩
  | n + 1, h => by
    have E : strEls (strC bs 0) (n + 1) = [mkI 4 (Nat.land (Nat.shiftRight (strC bs 0) (bit8 n)) 255)] :: strEls (strC bs 0) n := rfl
    obtain ⟨h1, h2, h3⟩ := strEls_flat (bs := bs) n (by omega)
    have hb := byteAt_eq bs (bs.length - (n + 1)) (by omega)
    have E2 : byteAt bs.length (strC bs 0) (bs.length - (n + 1)) = Nat.land (Nat.shiftRight (strC bs 0) (bit8 (bs.length - (bs.length - (n + 1) + 1)))) 255 := rfl
    rw [E2, show bs.length - (bs.length - (n + 1) + 1) = n by omega] at hb
    refine ⟨?_, by rw [E, List.length_cons, h2], fun x hx => ?_⟩
    · rw [E, List.flatten_cons, h1, hb, List.drop_eq_getElem_cons (show bs.length - (n + 1) < bs.length by omega), show bs.length - (n + 1) + 1 = bs.length - n by omega]
      rfl
    · rw [E] at hx
      rcases List.mem_cons.1 hx with rfl | hx
      · rfl
      · exact h3 x hx
theorem u8_vr (b : UInt8) : VR ρ j (.i 4 b.toNat) (.int .u8 (b.toNat : Int)) := by
  have hb : b.toNat < 256 := b.toNat_lt
  refine .mkI ?_ rfl ?_
  · simp [inR, IntKind.min, IntKind.max, IntKind.signed, IntKind.bits]; omega
  · simp [uOf, IntKind.bits]; omega
theorem rep_range {l : List Value} : ∀ n, ((List.range (n * l.length)).map fun i => l.toArray[i % l.length]!) = (List.replicate n l).flatten
  | 0 => by simp
  | n + 1 => by
    rw [Nat.succ_mul, List.range_add, List.map_append, rep_range n, List.replicate_succ', List.flatten_append]
    congr 1
    rw [List.map_map]
    simp only [List.flatten_cons, List.flatten_nil, List.append_nil]
    apply List.ext_getElem?
    intro i
    by_cases hi : i < l.length
    · simp [hi, Nat.add_mod, Nat.mod_eq_of_lt hi]
    · simp [hi]
theorem rep_vrs {z : List AV} {l : List Value} (h : VRs ρ j z l) : ∀ n, VRs ρ j (repL z n).flatten (List.replicate n l).flatten
  | 0 => .nil
  | n + 1 => by
    have E : repL z (n + 1) = z :: repL z n := rfl
    rw [E, List.flatten_cons, List.replicate_succ, List.flatten_cons]
    exact h.append (rep_vrs h n)
theorem repL_len (z : List AV) : ∀ n, (repL z n).length = n ∧ ∀ x ∈ repL z n, x = z
  | 0 => ⟨rfl, fun x hx => by cases hx⟩
  | n + 1 => by
    have E : repL z (n + 1) = z :: repL z n := rfl
    obtain ⟨h1, h2⟩ := repL_len z n
    rw [E]
    refine ⟨by rw [List.length_cons, h1], fun x hx => ?_⟩
    rcases List.mem_cons.1 hx with rfl | hx
    · rfl
    · exact h2 x hx
theorem srcEls_ok {e tx : TypeId} {D : TypeDesc} {i : TypeInfo} {z v : Value} {x : AV} {f : List (List AV) → Rs} {c : Nat} (hz : zOK P e = true) (hi : P.info? e = some i) (hiz : i.zero = some z) (hD : P.underlying tx = some D) (hs : srcK D i.size = true)
    (hr : HR P ρ j B0 h w.heap) (hv : VR ρ j x v) (ee : srcEls h i.size (modeOf D) (zeroCs P e) x (.bad c) f = .ok u h') : ∃ new n xs, f new = .ok u h' ∧ NewP ρ j i.size n new xs ∧ SrcP P w.heap i z tx v n xs := by
  obtain ⟨i', z', hi', hiz', _, hlen, _, hzv⟩ := zOK_inv hz
  rw [hi] at hi'; injection hi' with hi'; subst hi'
  rw [hiz] at hiz'; injection hiz' with hiz'; subst hiz'
  cases D with
  | slice e' =>
    have ee : elsOf h i.size x (.bad c) f = .ok u h' := ee
    obtain ⟨A, l, cap, els, xs, rfl, ep, ef⟩ := elsOf_ok hr hv ee
    refine ⟨els, l, xs, ef, ⟨ep.len, ep.one, ep.vrs, ep.cell1⟩, .sl e' hD (fun w => rfl) (fun w0 hw => ?_)⟩
    have := ep.run l (Nat.le_refl _) w0 hw
    rwa [List.take_of_length_le (by rw [ep.xlen]; omega)] at this
  | string =>
    have hs : Nat.beq i.size 1 = true := hs
    rw [beq_eq, decide_eq_true_eq] at hs
    cases x with
    | s l q =>
      have ee : f (strEls q l) = .ok u h' := ee
      obtain ⟨bs, rfl, rfl, rfl⟩ := hv.str
      obtain ⟨h1, h2, h3⟩ := strEls_flat (bs := bs.data.toList) bs.data.toList.length (Nat.le_refl _)
      rw [Nat.sub_self, List.drop_zero] at h1
      refine ⟨_, bs.size, byteCells bs, ee, ⟨by rw [h2]; rfl, fun x hx => by rw [hs]; exact h3 x hx, ?_, fun y hy => ?_⟩, .str hD (fun w => rfl) (fun w0 hw => ?_)⟩
      · rw [h1]
        have : ∀ l : List UInt8, VRs ρ j (l.map fun b => AV.i 4 b.toNat) (l.map fun b => Value.int .u8 (b.toNat : Int)) := by
          intro l
          induction l with
          | nil => exact .nil
          | cons b l ih => exact .cons (u8_vr b) ih
        exact this _
      · obtain ⟨_, _, rfl⟩ := List.mem_map.1 hy; rfl
      · rw [hs]; exact firstCells_string bs w0
    | _ => cases ee
  | int k =>
    have ee : natOf x (.bad c) (fun n => bc (Nat.ble n 1048576) (bc (oneL (zeroCs P e)) (f (repL (zeroCs P e) n)) (.bad c)) (.bad c)) = .ok u h' := ee
    obtain ⟨K, n, rfl, ee⟩ := natR hv ee badNe
    obtain ⟨h1, ee⟩ := bcR ee badNe
    obtain ⟨h2, ee⟩ := bcR ee badNe
    rw [ble_eq, decide_eq_true_eq] at h1
    have hzc := zeroCs_ok (ρ := ρ) (j := j) hzv
    obtain ⟨r1, r2⟩ := repL_len (zeroCs P e) n
    refine ⟨_, n, (List.replicate n z.cells.toList).flatten, ee, ⟨r1, fun y hy => by rw [r2 y hy]; exact hlen, rep_vrs hzc n, fun y hy => ?_⟩, .zs K k hD rfl h1 ?_⟩
    · obtain ⟨a, ha, hb⟩ := List.mem_flatten.1 hy
      rw [List.eq_of_mem_replicate ha] at hb
      exact oneL_one h2 hzc y hb
    · have hs : z.cells.toList.length = i.size := by rw [← hzc.length, hlen]
      have hs' : z.cells.size = i.size := by rw [← hs]; simp
      have := rep_range (l := z.cells.toList) n
      rw [hs] at this
      by_cases h0 : n * i.size = 0
      · rw [if_pos h0, ← this, h0]; rfl
      · rw [if_neg h0, ← this]
        apply Array.ext'
        simp [Builtin.zeroCells, hs']
  | _ => cases hs
end
end Go.Ev
end
section
namespace Go.Ev
open Go
section
variable {P : Program} {ρ ρ' : Rho} {j B0 : Nat} {H H' : Array Obj} {w : World} {h h' : Hp} {u : AV}
theorem catL_flat (l : List (List AV)) : catL l = l.flatten := catL_eq l
theorem VRs.idx {l : List AV} {xs : List Value} (h : VRs ρ j l xs) {i : Nat} (hi : i < l.length) : ∃ y, xs[i]? = some y ∧ VR ρ j ((l[i]?).getD (.z 0)) y := by
  obtain ⟨y, hy, hv⟩ := h.get i l[i] (List.getElem?_eq_getElem hi)
  exact ⟨y, hy, by rw [List.getElem?_eq_getElem hi]; exact hv⟩
theorem two_tree {k lo n : Nat} {old new : List (List AV)} {os xs : List Value} (hk : 0 < k) (ho : NewP ρ j k lo old os) (hn : NewP ρ j k n new xs) :
    TrOK k (lo + n) (pushB new lo (pushB old 0 .e)) ∧ ∀ i, i < (lo + n) * k → ∃ y, (os ++ xs)[i]? = some y ∧ VR ρ j (cell k (pushB new lo (pushB old 0 .e)) i) y := by
  have h1 := push_ok (TrOK.nil k) (l := old) ho.one
  rw [Nat.zero_add, ho.len] at h1
  have h2 := push_ok h1 (l := new) hn.one
  rw [hn.len] at h2
  refine ⟨h2, fun i hi => ?_⟩
  rw [push_flat h1 hk hn.one]
  have hol : old.flatten.length = lo * k := by rw [flat_len old ho.one, ho.len]
  have hnl : new.flatten.length = n * k := by rw [flat_len new hn.one, hn.len]
  rw [Nat.add_mul] at hi
  by_cases c : i < lo * k
  · rw [if_pos c, push_flat (TrOK.nil k) hk ho.one, if_neg (by omega), Nat.zero_mul, Nat.sub_zero, List.getElem?_append_left (by rw [ho.xlen]; exact c)]
    exact ho.vrs.idx (by omega)
  · rw [if_neg c, List.getElem?_append_right (by rw [ho.xlen]; omega), ho.xlen]
    exact hn.vrs.idx (by omega)
theorem zeroCells_size (z : Array Value) (n : Nat) : (Builtin.zeroCells z n).size = n * z.size := by simp [Builtin.zeroCells]
theorem appNew_ok {t tx ty e lo n : Nat} {i : TypeInfo} {z x : Value} {old new : List (List AV)} {os xs : List Value} {base : Option Addr} {sCap : Nat} (ht : P.underlying t = some (.slice e)) (hz : zOK P e = true) (hi : P.info? e = some i) (hiz : i.zero = some z) (hr : HR P ρ j B0 h w.heap)
    (ho : NewP ρ j i.size lo old os) (hn : NewP ρ j i.size n new xs) (hold : ∀ w0 : World, w0.heap = w.heap → (Builtin.firstCells i.size lo (.slice base lo sCap)).run P w0 = .ok os.toArray w0) (hs : SrcP P w.heap i z tx x n xs) (hg : sCap < lo + n) (hsm : lo + n ≤ 1048576)
    (ee : appNew h e i.size new old lo = .ok u h') : Does P j B0 (Builtin.append_ #[t, tx] ty #[.slice base lo sCap, x]) ρ w h' u := by
  obtain ⟨i', z', hi', hiz', hb, hlen, _, hzv⟩ := zOK_inv hz
  rw [hi] at hi'; injection hi' with hi'; subst hi'
  rw [hiz] at hiz'; injection hiz' with hiz'; subst hiz'
  have ee : newc (slN (lo + lenL new) (2 * (lo + lenL new))) e i.size (lo + lenL new) (pushB new lo (pushB old 0 .e)) h = .ok u h' := ee
  rw [lenL_eq, hn.len] at ee
  have hk := (newc_inv ee).1
  obtain ⟨c, w', hc, hrun, h1, h2, h3, h4⟩ := append_grow (ty := ty) ht hi hiz hb hold hs hg hsm
  obtain ⟨t1, t2⟩ := two_tree hk ho hn
  have hzs : z.cells.size = i.size := by have := (zeroCs_ok (ρ := ρ) (j := j) hzv).length; rw [hlen] at this; simpa using this.symm
  have hsz : (os.toArray ++ xs.toArray ++ Builtin.zeroCells z.cells (c - (lo + n))).size = c * i.size := by
    simp only [Array.size_append, zeroCells_size, hzs]
    simp only [List.size_toArray, ho.xlen, hn.xlen]
    rw [← Nat.add_mul, ← Nat.add_mul, show lo + n + (c - (lo + n)) = c by omega]
  have al : AllocP P j ρ w (Builtin.append_ #[t, tx] ty #[.slice base lo sCap, x]) (slN (lo + n) (2 * (lo + n))) i.size (lo + n) (pushB new lo (pushB old 0 .e)) := by
    refine ⟨hk, t1, _, w', _, e, (0, 0), hrun, h1, h2, h3, h4, .inl rfl, ?_, fun q hq => ?_, fun ρ' o _ e1 e2 e3 => ⟨?_, by intro h; cases h⟩⟩
    · rw [hsz]; exact Nat.mul_le_mul_right _ hc
    · obtain ⟨y, hy, hv⟩ := t2 q hq
      refine ⟨y, ?_, hv⟩
      rw [Nat.zero_add]
      have hlt : q < (os ++ xs).length := (List.getElem?_eq_some_iff.1 hy).1
      rw [Array.getElem?_append_left (by simpa using hlt)]
      simpa using hy
    · refine VR.sl (j := j) (f := 0) e1 (by omega) (fun hh => by omega) (by omega) (fun _ _ => ?_)
      rw [e2, e3, hsz]; omega
  exact al.does hr ee
theorem findM_from {m : Nat} {d : Rs} {f : Nat → Bt → Rs} : ∀ {l : List Me} {v : AV} {h : Hp}, findM m d f l = .ok v h → (∀ v h, d ≠ .ok v h) → ∃ n tr r, fromM m l = .mk m n tr :: r ∧ (Me.mk m n tr :: r).Sublist l ∧ f n tr = .ok v h
  | [], v, h, e, hd => absurd e (hd v h)
  | .mk id n tr :: l, v, h, e, hd => by
    have e : bc (Nat.beq id m) (f n tr) (findM m d f l) = .ok v h := e
    have E : fromM m (.mk id n tr :: l) = bc (Nat.beq id m) (.mk id n tr :: l) (fromM m l) := rfl
    rw [E]
    rw [beq_eq] at e ⊢
    by_cases hi : id = m
    · subst hi
      simp only [decide_true, bc_t] at e ⊢
      exact ⟨n, tr, l, rfl, List.Sublist.refl _, e⟩
    · simp only [hi, decide_false, bc_f] at e ⊢
      obtain ⟨n', tr', r, h1, h2, h3⟩ := findM_from e hd
      exact ⟨n', tr', r, h1, h2.cons _, h3⟩
theorem memb_ok {o : Ps} {t' k m need : Nat} {ms ms' : List Me} {T : Bt} {B X : Nat} {H' : Array Obj} {s : Nat} (hr : HR P ρ j B0 h H) (hkn : ∃ m0 p0, ρ o m0 = some p0) (ho : h.ob o = .c t' k true ms) (hsub : ms'.Sublist ms) (hm : m = h.md)
    (hB : (∃ m0 X0, ρ o m0 = some (B, X0)) ∨ B = H.size) (hs : ∀ q l Y, ρ q l = some (B, Y) → ρ.sz B = s) (hsz : H.size ≤ H'.size) (hBl : B < H'.size) (hT : TrOK k need T)
    (hch : ∀ b, b < H.size → b ≠ B → H'[b]? = H[b]?) (hmem : MemR (ρ.add o m B X k s) j H' k need T B X)
    (hold : ∀ me ∈ ms', ∀ Y, ρ o me.id = some (B, Y) → MemR (ρ.add o m B X k s) j H' k me.n me.tr B Y ∧ Y + me.n * k ≤ X + need * k) :
    HR P (ρ.add o m B X k s) j B0 (h.putN o (.c t' k true (.mk m need T :: ms'))) H' ∧ Tn B0 ρ (ρ.add o m B X k s) H H' := by
  have cr := hr.cr ho
  have hno : ρ o m = none := by
    cases e : ρ o m with
    | none => rfl
    | some p => have := (hr.fresh _ _ _ e).2.1; omega
  have le : ρ.le (ρ.add o m B X k s) := Rho.add_le hno cr.kk hs
  have hn := Hp.putN_nx h o (.c t' k true (.mk m need T :: ms'))
  have hB0 : B0 ≤ B := by
    rcases hB with ⟨m0, X0, e⟩ | e
    · exact cr.low rfl _ _ e
    · rw [e]; exact hr.base
  have hid : ∀ me ∈ ms', me.id ≠ m := fun me hme e => by have := hr.ids o _ _ _ _ ho me (hsub.subset hme); omega
  have crn : CR (ρ.add o m B X k s) j B0 H' o k true (.mk m need T :: ms') := by
    refine ⟨cr.pos, fun m' p e => ?_, fun _ m' p e => ?_, fun me hme => ?_, fun me hme B' X' e => ?_, ?_⟩
    · show (if o = o then k else _) = k; rw [if_pos rfl]
    · rcases Rho.add_inv e with ⟨_, _, rfl⟩ | e
      · exact hB0
      · exact cr.low rfl _ _ e
    · rcases List.mem_cons.1 hme with rfl | hme
      · exact hT
      · exact cr.tr me (hsub.subset hme)
    · rcases List.mem_cons.1 hme with rfl | hme
      · rcases Rho.add_inv e with ⟨_, _, e⟩ | e
        · injection e with e1 e2; subst e1; subst e2; exact hmem
        · have e : ρ o m = some (B', X') := e
          rw [hno] at e; cases e
      · rcases Rho.add_inv e with ⟨_, h2, _⟩ | e3
        · exact absurd h2 (hid me hme)
        · by_cases hb : B' = B
          · subst hb; exact (hold me hme X' e3).1
          · exact (cr.mem me (hsub.subset hme) B' X' e3).keep le (le _ _ _ e3).2.2 (hch B' (hr.fresh _ _ _ e3).2.2 hb)
    · refine List.pairwise_cons.2 ⟨fun me hme B' X' Y e1 e2 => ?_, (cr.ord.sublist hsub).imp_of_mem fun {a b} ha hb hab B' X' Y e1 e2 => ?_⟩
      · rcases Rho.add_inv e2 with ⟨_, h2, _⟩ | e2
        · exact absurd h2 (hid me hme)
        · have e1 : ρ.add o m B X k s o m = some (B', X') := e1
          rw [Rho.add_at] at e1
          injection e1 with e1; injection e1 with e1 e3; subst e1; subst e3
          exact (hold me hme Y e2).2
      · rcases Rho.add_inv e1 with ⟨_, h2, _⟩ | e1
        · exact absurd h2 (hid a ha)
        · rcases Rho.add_inv e2 with ⟨_, h2, _⟩ | e2
          · exact absurd h2 (hid b hb)
          · exact hab B' X' Y e1 e2
  exact hr.upd (o := o) (ob := .c t' k true (.mk m need T :: ms')) (h' := h.putN o (.c t' k true (.mk m need T :: ms'))) (fun q => Hp.ob_putN _ _ _ _) (by rw [hn.1]; exact Nat.le_refl _) (by rw [hn.2]; omega) le hsz
    (fun q hq m' p e => by
      rcases Rho.add_inv e with ⟨h1, _, _⟩ | e
      · exact absurd h1 hq
      · exact e)
    (fun m' p e => by
      rw [hn.1, hn.2]
      rcases Rho.add_inv e with ⟨_, rfl, rfl⟩ | e
      · refine ⟨hr.lt ho (by intro h; cases h), by omega, hBl, ?_⟩
        rcases hB with ⟨m0, X0, e⟩ | e
        · exact .inl ⟨m0, X0, e⟩
        · exact .inr (by show H.size ≤ B; omega)
      · have := hr.fresh _ _ _ e
        exact ⟨this.1, by omega, by omega, .inl ⟨m', p.2, e⟩⟩)
    (fun b hb hor => hch b hb (by
      rintro rfl
      rcases hor with h | h
      · omega
      · rcases hB with ⟨m0, X0, e⟩ | e
        · exact h _ _ e
        · omega))
    crn (.inl (by rw [hn.1]; exact hr.lt ho (by intro h; cases h)))
    (fun t2 k2 w2 ms2 e2 me hme => by
      injection e2 with _ _ _ e2
      subst e2
      rw [hn.2]
      rcases List.mem_cons.1 hme with rfl | hme
      · show m < h.md + 1; omega
      · have := hr.ids o _ _ _ _ ho me (hsub.subset hme); omega) rfl (fun _ _ _ => .inl hkn)
end
end Go.Ev
end
section
namespace Go.Ev
open Go
section
variable {P : Program} {ρ ρ' : Rho} {j B0 : Nat} {H H' : Array Obj} {w : World} {h h' : Hp} {u : AV}
theorem ElsP.newP {k l cap : Nat} {A : Option Addr} {els : List (List AV)} {xs : List Value} (p : ElsP P ρ j H k A l cap els xs) : NewP ρ j k l els xs := ⟨p.len, p.one, p.vrs, p.cell1⟩
theorem appMb_ok {t tx ty e : TypeId} {i : TypeInfo} {z x sv : Value} {new : List (List AV)} {xs : List Value} {o : Ps} {t' m l n c N : Nat} {ms ms' : List Me} {tr T : Bt}
    (ht : P.underlying t = some (.slice e)) (hz : zOK P e = true) (hi : P.info? e = some i) (hiz : i.zero = some z) (hr : HR P ρ j B0 h w.heap) (hn : NewP ρ j i.size n new xs) (hs : SrcP P w.heap i z tx x n xs) (hsm : l + n ≤ 1048576)
    (ho : h.ob o = .c t' i.size true ms) (hsub : ms'.Sublist ms) (hm : Me.mk m N tr ∈ ms) (hlN : l ≤ N) (hT : TrOK i.size (l + n) T) (hc1 : ∀ q, q < l * i.size → cell i.size T q = cell i.size tr q)
    (hc2 : ∀ q, l * i.size ≤ q → q < (l + n) * i.size → cell i.size T q = (new.flatten[q - l * i.size]?).getD (.z 0)) (hold : ∀ me ∈ ms', ∀ B X Y, ρ o m = some (B, X) → ρ o me.id = some (B, Y) → Y + me.n * i.size ≤ X + l * i.size)
    (hv : VR ρ j (.sl o m 0 l c) sv) (hc0 : c % 2 = 0) (hnc : c / 2 < l + n) :
    Does P j B0 (Builtin.append_ #[t, tx] ty #[sv, x]) ρ w (h.putN o (.c t' i.size true (.mk h.md (l + n) T :: ms'))) (.sl o h.md 0 (l + n) (2 * (l + n))) := by
  obtain ⟨i', z', hi', hiz', hb, hlen, _, hzv⟩ := zOK_inv hz
  rw [hi] at hi'; injection hi' with hi'; subst hi'
  rw [hiz] at hiz'; injection hiz' with hiz'; subst hiz'
  have cr := hr.cr ho
  have hk := cr.pos
  have tr' : TrOK i.size N tr := cr.tr _ hm
  have hzs : z.cells.size = i.size := by have := (zeroCs_ok (ρ := ρ) (j := j) hzv).length; rw [hlen] at this; simpa using this.symm
  have hnl : new.flatten.length = n * i.size := by rw [flat_len new hn.one, hn.len]
  have grow : (∃ m0 p0, ρ o m0 = some p0) → ∀ (base : Option Addr) (sCap : Nat) (os : List Value), os.length = l * i.size → (∀ q, q < l * i.size → ∃ y, os[q]? = some y ∧ VR ρ j (cell i.size tr q) y) →
      (∀ w0 : World, w0.heap = w.heap → (Builtin.firstCells i.size l (.slice base l sCap)).run P w0 = .ok os.toArray w0) → sCap < l + n →
      Does P j B0 (Builtin.append_ #[t, tx] ty #[.slice base l sCap, x]) ρ w (h.putN o (.c t' i.size true (.mk h.md (l + n) T :: ms'))) (.sl o h.md 0 (l + n) (2 * (l + n))) := by
    intro hkn base sCap os hol hos hold2 hg
    obtain ⟨cc, w', hcc, hrun, h1, h2, h3, h4⟩ := append_grow (ty := ty) ht hi hiz hb hold2 hs hg hsm
    have hsz : (os.toArray ++ xs.toArray ++ Builtin.zeroCells z.cells (cc - (l + n))).size = cc * i.size := by
      simp only [Array.size_append, zeroCells_size, hzs]
      simp only [List.size_toArray, hol, hn.xlen]
      rw [← Nat.add_mul, ← Nat.add_mul, show l + n + (cc - (l + n)) = cc by omega]
    have le : ρ.le (ρ.add o h.md w.heap.size 0 i.size (cc * i.size)) := Rho.add_le (by
      cases e : ρ o h.md with
      | none => rfl
      | some p => have := (hr.fresh _ _ _ e).2.1; omega) cr.kk (fun q l Y e => by have := (hr.fresh _ _ _ e).2.2; simp at this)
    have := memb_ok (X := 0) (H' := w.heap.push (.cells (os.toArray ++ xs.toArray ++ Builtin.zeroCells z.cells (cc - (l + n))) e)) (s := cc * i.size) (B := w.heap.size) hr hkn ho hsub rfl (.inr rfl) (fun q l Y e => by have := (hr.fresh _ _ _ e).2.2; simp at this) (by simp) (by simp) hT
      (fun b hb _ => push_get hb) (by
        refine ⟨os.toArray ++ xs.toArray ++ Builtin.zeroCells z.cells (cc - (l + n)), ⟨⟨e, (0, 0), by rw [Array.getElem?_push, if_pos rfl], .inl rfl⟩, ?_⟩, ?_, fun q hq => ?_⟩
        · rw [hsz]; show _ = (if w.heap.size = w.heap.size then cc * i.size else _); rw [if_pos rfl]
        · rw [Nat.zero_add, hsz]; exact Nat.mul_le_mul_right _ hcc
        · rw [Nat.zero_add]
          by_cases cq : q < l * i.size
          · obtain ⟨y, hy, hvy⟩ := hos q cq
            refine ⟨y, ?_, by rw [hc1 q cq]; exact hvy.mono le⟩
            rw [Array.getElem?_append_left (by simp [hol, hn.xlen]; omega), Array.getElem?_append_left (by simp [hol]; exact cq)]
            simpa using hy
          · have hq' : q - l * i.size < n * i.size := by rw [Nat.add_mul] at hq; omega
            obtain ⟨y, hy, hvy⟩ := hn.vrs.idx (i := q - l * i.size) (by rw [hnl]; exact hq')
            refine ⟨y, ?_, by rw [hc2 q (by omega) hq]; exact hvy.mono le⟩
            rw [Array.getElem?_append_left (by simp [hol, hn.xlen]; rw [Nat.add_mul] at hq; omega), Array.getElem?_append_right (by simp [hol]; omega)]
            simp only [List.size_toArray, hol]
            simpa using hy)
      (fun me hme Y e => by have := (hr.fresh _ _ _ e).2.2; simp at this)
    refine ⟨_, w', _, hrun, h1, h2, h3, by rw [h4]; exact this.2, by rw [h4]; exact this.1, ?_, by intro h; cases h⟩
    refine VR.sl (j := j) (f := 0) (Rho.add_at _ _ _ _ _ _ _) (by omega) (fun hh => by omega) (by omega) (fun _ _ => ?_)
    show 0 + cc * (if o = o then i.size else _) ≤ (if w.heap.size = w.heap.size then cc * i.size else _)
    rw [if_pos rfl, if_pos rfl, Nat.zero_add]; exact Nat.le_refl _
  generalize hs0 : AV.sl o m 0 l c = s0 at hv
  cases hv with
  | @sl o2 m2 f2 l2 c2 B X cap hl hle hco hcap hroom =>
    injection hs0 with e1 e2 e3 e4 e5
    subst e1; subst e2; subst e3; subst e4; subst e5
    have mem : MemR ρ j w.heap i.size N tr B X := cr.mem _ hm B X hl
    obtain ⟨os, hol, hov, horun⟩ := load_upto (P := P) (f := 0) mem (show 0 + l * i.size ≤ N * i.size by rw [Nat.zero_add]; exact Nat.mul_le_mul_right _ hlN)
    have hosq : ∀ q, q < l * i.size → ∃ y, os[q]? = some y ∧ VR ρ j (cell i.size tr q) y := by
      intro q hq
      obtain ⟨y, hy, hvy⟩ := hov.idx (i := q) (by rw [cellsF_len]; exact hq)
      rw [cellsF_get hq, Nat.zero_add] at hvy
      exact ⟨y, hy, hvy⟩
    by_cases hg : l + n ≤ cap
    · -- there is room
      obtain ⟨cs, hbk, hx, hcc⟩ := mem.ex
      obtain ⟨el, fz, hB, hzf⟩ := hbk.get
      have hBs := (Array.getElem?_eq_some_iff.1 hB).1
      have hroom : X + cap * i.size ≤ cs.size := by
        have := hroom hc0 rfl
        rw [cr.kk _ _ hl, ← hbk.sz] at this; exact this
      have hneed : (l + n) * i.size ≤ cap * i.size := Nat.mul_le_mul_right _ hg
      rw [Nat.add_mul] at hneed
      obtain ⟨cs', _, hsz, hq⟩ := store_cells (P := P) B (X + l * i.size) el fz xs 0 cs w hB hzf (by rw [hn.xlen]; omega) hn.cell1
      have hrunst : ∀ w0 : World, w0.heap = w.heap → (storeCells ⟨B, X + 0 + l * i.size, none⟩ xs 0).run P w0 = .ok () { w0 with heap := w.heap.setIfInBounds B (.cells cs' el fz) } := by
        intro w0 hw0
        obtain ⟨cs2, hrun, hsz2, hq2⟩ := store_cells (P := P) B (X + l * i.size) el fz xs 0 cs w0 (by rw [hw0]; exact hB) hzf (by rw [hn.xlen]; omega) hn.cell1
        have : cs2 = cs' := by
          apply Array.ext_getElem?
          intro q; rw [hq, hq2]
        subst this
        rw [← hw0]; exact hrun
      have hno : ρ o h.md = none := by
        cases e : ρ o h.md with
        | none => rfl
        | some p => have := (hr.fresh _ _ _ e).2.1; omega
      have le : ρ.le (ρ.add o h.md B X i.size (ρ.sz B)) := Rho.add_le hno cr.kk (fun _ _ _ _ => rfl)
      have szB : (ρ.add o h.md B X i.size (ρ.sz B)).sz B = ρ.sz B := by show (if B = B then _ else _) = _; rw [if_pos rfl]
      have bk' : Blk (ρ.add o h.md B X i.size (ρ.sz B)) (w.heap.setIfInBounds B (.cells cs' el fz)) B cs' := ⟨⟨el, fz, by simp [hBs], (by rw [hsz]; exact hzf)⟩, by rw [hsz, szB]; exact hbk.sz⟩
      have := memb_ok (X := X) (B := B) (H' := w.heap.setIfInBounds B (.cells cs' el fz)) (s := ρ.sz B) hr ⟨_, _, hl⟩ ho hsub rfl (.inl ⟨m, X, hl⟩) (fun _ _ _ _ => rfl) (by simp) (by simpa using hBs) hT
        (fun b hb hne => by rw [Array.getElem?_setIfInBounds, if_neg (fun e => hne e.symm)]) (by
          refine ⟨cs', bk', by rw [hsz, Nat.add_mul]; omega, fun q hq' => ?_⟩
          rw [hq]
          rw [Nat.add_mul] at hq'
          by_cases cq : q < l * i.size
          · rw [if_neg (by omega), hc1 q cq]
            obtain ⟨y, hy, hvy⟩ := hcc q (by have := Nat.mul_le_mul_right i.size hlN; omega)
            exact ⟨y, hy, hvy.mono le⟩
          · rw [if_pos (by rw [hn.xlen]; omega), hc2 q (by omega) (by rw [Nat.add_mul]; exact hq'), show X + q - (X + l * i.size + 0) = q - l * i.size by omega]
            obtain ⟨y, hy, hvy⟩ := hn.vrs.idx (i := q - l * i.size) (by rw [hnl]; omega)
            exact ⟨y, hy, hvy.mono le⟩)
        (fun me hme Y e => by
          have hend := hold me hme B X Y hl e
          refine ⟨?_, by rw [Nat.add_mul]; omega⟩
          obtain ⟨cs2, hb2, hx2, hc2'⟩ := cr.mem me (hsub.subset hme) B Y e
          have : cs2 = cs := by
            obtain ⟨el2, fz2, hB2, _⟩ := hb2.get
            rw [hB] at hB2; injection hB2 with hB2; injection hB2 with hB2; exact hB2.symm
          subst this
          refine ⟨cs', bk', by rw [hsz]; exact hx2, fun q hq' => ?_⟩
          rw [hq, if_neg (by omega)]
          obtain ⟨y, hy, hvy⟩ := hc2' q hq'
          exact ⟨y, hy, hvy.mono le⟩)
      refine ⟨_, _, _, append_room (ty := ty) ht hi hiz hb hs hg hrunst, rfl, rfl, rfl, this.2, this.1, ?_, by intro h; cases h⟩
      refine VR.sl (j := j) (f := 0) (Rho.add_at _ _ _ _ _ _ _) (by omega) (fun hh => by omega) (by omega) (fun _ _ => ?_)
      show X + cap * (if o = o then i.size else _) ≤ (if B = B then ρ.sz B else _)
      rw [if_pos rfl, if_pos rfl, ← hbk.sz]; exact hroom
    · exact grow ⟨_, _, hl⟩ _ cap os hol hosq (fun w0 hw0 => by
        have := horun (l * i.size) (Nat.le_refl _) w0 hw0
        rw [List.take_of_length_le (by omega)] at this
        simpa [Builtin.firstCells] using this) (by omega)
  | @sl0 o2 m2 f2 c2 a p2 hl0 hcz =>
    injection hs0 with e1 e2 e3 e4 e5
    subst e1; subst e2; subst e3; subst e4; subst e5
    exact grow ⟨_, _, hl0⟩ _ 0 [] (by simp) (fun q hq => by simp at hq) (fun w0 _ => by simp [Builtin.firstCells, loadCells, loadCellsFrom]) (by omega)
  | _ => cases hs0
end
end Go.Ev
end
section
namespace Go.Ev
open Go
section
variable {P : Program} {ρ ρ' : Rho} {j B0 : Nat} {H H' : Array Obj} {w : World} {h h' : Hp} {u : AV}
theorem append_none {t tx ty e : TypeId} {i : TypeInfo} {z : Value} (ht : P.underlying t = some (.slice e)) (hi : P.info? e = some i) (_hz : i.zero = some z) {base : Option Addr} {sLen sCap : Nat} {x : Value} {news : List Value} (hs : SrcP P w.heap i z tx x 0 news) (hg : sLen ≤ sCap) (hn : news = []) :
    (Builtin.append_ #[t, tx] ty #[.slice base sLen sCap, x]).run P w = .ok (.slice base sLen sCap) w := by
  subst hn
  cases hs with
  | sl e' hk len cells =>
    have c1 := cells w rfl
    cases base <;> simp [Builtin.append_, run_underlying ht, run_underlying hk, sizeOf, typeInfo, hi, len, hg, c1, storeCells]
  | str hk len cells =>
    have c1 := cells w rfl
    cases base <;> simp [Builtin.append_, run_underlying ht, run_underlying hk, sizeOf, typeInfo, hi, len, hg, c1, storeCells]
  | zs k k' hk hx hn' hxs =>
    subst hx
    have wn : IntKind.i64.wrap ((0 : Nat) : Int) = 0 := wrap_small (n := 0) (by omega)
    have wn' : IntKind.i64.wrap (0 : Int) = 0 := wn
    cases base <;> simp [Builtin.append_, run_underlying ht, run_underlying hk, sizeOf, typeInfo, hi, hg, asInt, asIntOf, wn', storeCells]
theorem isSl_ok {s : AV} {sv : Value} (h : isSl s = true) (hv : VR ρ j s sv) : s ≠ top ∧ ∃ A l c, sv = .slice A l c ∧ l ≤ c := by
  cases s with
  | sl o m f l c =>
    refine ⟨(by intro h; cases h), ?_⟩
    cases hv with
    | sl _ hl _ hc _ => exact ⟨_, _, _, rfl, by omega⟩
    | sl0 _ _ => exact ⟨_, _, _, rfl, by omega⟩
  | z q =>
    have E : bc (Nat.beq q 2) true (Nat.beq q 3) = true := h
    rw [beq_eq, beq_eq] at E
    by_cases h2 : q = 2
    · subst h2
      cases hv with
      | sn => exact ⟨(by intro h; cases h), _, _, _, rfl, by omega⟩
    · by_cases h3 : q = 3
      · subst h3
        cases hv with
        | s0 => exact ⟨(by intro h; cases h), _, _, _, rfl, by omega⟩
      · simp [h2, h3, bc] at E
  | _ => cases h
theorem appIn_ok {t tx ty e : TypeId} {i : TypeInfo} {z x sv : Value} {new : List (List AV)} {xs : List Value} {o : Ps} {t' m f l c n N ko : Nat} {ms : List Me} {tr : Bt}
    (ht : P.underlying t = some (.slice e)) (hz : zOK P e = true) (hi : P.info? e = some i) (hiz : i.zero = some z) (hr : HR P ρ j B0 h w.heap) (hn : NewP ρ j i.size n new xs) (hs : SrcP P w.heap i z tx x n xs)
    (ho : h.ob o = .c t' ko true ms) (hm : Me.mk m N tr ∈ ms) (hv : VR ρ j (.sl o m f l c) sv) (hnc : l + n ≤ c / 2) (hn0 : 0 < n) (ee : appIn h o t' ko i.size m f l c (l + n) N tr new = .ok u h') :
    Does P j B0 (Builtin.append_ #[t, tx] ty #[sv, x]) ρ w h' u := by
  have ee : bc (Nat.ble (f + (l + n) * i.size) (N * ko)) (.ok (.sl o m f (l + n) c) (h.put o (.c t' ko true [.mk m N (wrN ko (catL new) (f + l * i.size) tr)]))) (.bad 30) = Rs.ok u h' := ee
  obtain ⟨hle, ee⟩ := bcR ee badNe
  rw [ble_eq, decide_eq_true_eq, Nat.add_mul] at hle
  injection ee with e1 e2
  subst e1; subst e2
  obtain ⟨i', z', hi', hiz', hb, _, _, _⟩ := zOK_inv hz
  rw [hi] at hi'; injection hi' with hi'; subst hi'
  rw [hiz] at hiz'; injection hiz' with hiz'; subst hiz'
  have hnl : new.flatten.length = n * i.size := by rw [flat_len new hn.one, hn.len]
  have cr := hr.cr ho
  cases hv with
  | sl hl hle' hco hcap hroom =>
    have hput := wrN_ok (N := N) cr.pos new.flatten (f + l * i.size) tr (cr.tr _ hm) (by rw [hnl]; omega)
    obtain ⟨H', hrun, tn, hr'⟩ := put_ok (P := P) (w := w) hl hr hn.vrs hn.cell1 ho hm (by rw [hnl]; omega) hput
    rw [catL_flat]
    refine ⟨_, _, ρ, append_room (ty := ty) ht hi hiz hb hs (by omega) (H' := H') (fun w0 hw0 => by rw [Nat.add_assoc]; exact hrun w0 hw0), DoesP.mem tn hr' ?_ (by intro h; cases h)⟩
    exact .sl hl (by omega) hco hcap hroom
  | sl0 _ hc => omega
theorem app1_ok {t tx ty e : TypeId} {i : TypeInfo} {z x sv : Value} {new : List (List AV)} {xs : List Value} {o : Ps} {m f l c n : Nat}
    (ht : P.underlying t = some (.slice e)) (hz : zOK P e = true) (hi : P.info? e = some i) (hiz : i.zero = some z) (hr : HR P ρ j B0 h w.heap) (hn : NewP ρ j i.size n new xs) (hs : SrcP P w.heap i z tx x n xs) (hsm : l + n ≤ 1048576) (hn0 : 0 < n)
    (hv : VR ρ j (.sl o m f l c) sv) (ee : app1 h e i.size o m f l c (l + n) new = .ok u h') : Does P j B0 (Builtin.append_ #[t, tx] ty #[sv, x]) ρ w h' u := by
  obtain ⟨t', ko, wr', ms, ho, ee⟩ := cC_ok ee badNe
  obtain ⟨N, tr, r, hfr, hsubl, e2⟩ := findM_from ee badNe
  have hm : Me.mk m N tr ∈ ms := hsubl.subset (by simp)
  obtain ⟨hle, e3⟩ := bcR e2 badNe
  rw [ble_eq, decide_eq_true_eq] at hle
  have hle : f + l * i.size ≤ N * ko := hle
  have cr := hr.cr ho
  have e3 : bc (Nat.ble (l + n) (c / 2)) (bc wr' (appIn h o t' ko i.size m f l c (l + n) N tr new) (.bad 36)) (bc (Nat.beq (c % 2) 1) (okEls (rdEls ko tr i.size l f) (.bad 37) fun old => appNew h e i.size new old l)
    (bc (andB wr' (Nat.beq ko i.size)) (appUn h o t' i.size m f l (l + n) N tr ms new) (.bad 38))) = .ok u h' := e3
  rw [ble_eq, beq_eq] at e3
  by_cases c1 : l + n ≤ c / 2
  · simp only [c1, decide_true, bc_t] at e3
    obtain ⟨hw, e4⟩ := bcR e3 badNe
    subst hw
    exact appIn_ok ht hz hi hiz hr hn hs ho hm hv c1 hn0 e4
  · simp only [c1, decide_false, bc_f] at e3
    by_cases c2 : c % 2 = 1
    · simp only [c2, decide_true, bc_t] at e3
      obtain ⟨h1, e4⟩ := okEls_ok e3 badNe
      cases hv with
      | sl hl hle' hco hcap hroom =>
        obtain ⟨os, ep⟩ := els_mem (P := P) (cap := c / 2) cr hm hl hle h1
        rw [hco c2]
        exact appNew_ok ht hz hi hiz hr ep.newP hn (fun w0 hw0 => by
          have := ep.run l (Nat.le_refl _) w0 hw0
          rwa [List.take_of_length_le (by rw [ep.xlen]; omega)] at this) hs (by omega) hsm e4
      | sl0 _ hc => omega
    · simp only [c2, decide_false, bc_f] at e3
      obtain ⟨hw, e4⟩ := bcR e3 badNe
      obtain ⟨rfl, hk⟩ := andOf hw
      rw [beq_eq, decide_eq_true_eq] at hk
      subst hk
      have tr' : TrOK i.size N tr := cr.tr _ hm
      have hnl : new.flatten.length = n * i.size := by rw [flat_len new hn.one, hn.len]
      rcases nCR (n := f) (f := fun _ => .bad 31) e4 with ⟨rfl, e4⟩ | ⟨_, _, e4⟩
      · rw [Nat.zero_add] at hle
        have hlN : l ≤ N := Nat.le_of_mul_le_mul_right hle cr.pos
        have e4 : bc (Nat.beq l N) (appMb h o t' i.size (l + n) (pushB new N tr) (fromM m ms)) (okEls (rdEls i.size tr i.size l 0) (.bad 32) fun old => appMb h o t' i.size (l + n) (pushB new l (pushB old 0 .e)) []) = .ok u h' := e4
        rw [beq_eq] at e4
        by_cases c3 : l = N
        · subst c3
          simp only [decide_true, bc_t] at e4
          have e5 : Rs.ok (.sl o h.md 0 (l + n) (2 * (l + n))) (h.putN o (.c t' i.size true (.mk h.md (l + n) (pushB new l tr) :: fromM m ms))) = .ok u h' := e4
          injection e5 with e6 e7
          subst e6; subst e7
          have hT := push_ok tr' hn.one
          rw [hn.len] at hT
          refine appMb_ok ht hz hi hiz hr hn hs hsm ho (by rw [hfr]; exact hsubl) hm (Nat.le_refl _) hT (fun q hq => by rw [push_flat tr' cr.pos hn.one, if_pos hq]) (fun q h1 h2 => by rw [push_flat tr' cr.pos hn.one, if_neg (by omega)]) (fun me hme B X Y e1 e2 => ?_) hv (by omega) (by omega)
          rw [hfr] at hme
          rcases List.mem_cons.1 hme with rfl | hme
          · have e2 : ρ o m = some (B, Y) := e2
            rw [e1] at e2; injection e2 with e2; injection e2 with _ e2; subst e2; exact Nat.le_refl _
          · have hp := (cr.ord.sublist hsubl)
            exact (List.pairwise_cons.1 hp).1 me hme B X Y e1 e2
        · simp only [c3, decide_false, bc_f] at e4
          obtain ⟨h1, e5⟩ := okEls_ok e4 badNe
          have e5 : Rs.ok (.sl o h.md 0 (l + n) (2 * (l + n))) (h.putN o (.c t' i.size true [.mk h.md (l + n) (pushB new l (pushB (rdEls i.size tr i.size l 0) 0 .e))])) = .ok u h' := e5
          injection e5 with e6 e7
          subst e6; subst e7
          obtain ⟨r1, r2, r3⟩ := rdEls_ok (k := i.size) tr' cr.pos l 0 (by rw [Nat.zero_add]; exact Nat.mul_le_mul_right _ hlN)
          have hT1 := push_ok (TrOK.nil i.size) r3
          rw [Nat.zero_add, r2] at hT1
          have hT := push_ok hT1 hn.one
          rw [hn.len] at hT
          refine appMb_ok ht hz hi hiz hr hn hs hsm ho (List.nil_sublist _) hm hlN hT (fun q hq => ?_) (fun q h1 h2 => by rw [push_flat hT1 cr.pos hn.one, if_neg (by omega)]) (fun me hme => by cases hme) hv (by omega) (by omega)
          rw [push_flat hT1 cr.pos hn.one, if_pos hq, push_flat (TrOK.nil _) cr.pos r3, if_neg (by omega), Nat.zero_mul, Nat.sub_zero, r1, cellsF_get hq, Nat.zero_add]; rfl
      · cases e4
theorem aApp_ok {t tx ty e : TypeId} {D : TypeDesc} {i : TypeInfo} {s x : AV} {sv v : Value} (ht : P.underlying t = some (.slice e)) (hz : zOK P e = true) (hi : P.info? e = some i) (hD : P.underlying tx = some D) (hsk : srcK D i.size = true) (hr : HR P ρ j B0 h w.heap) (hs : VR ρ j s sv) (hx : VR ρ j x v)
    (ee : aApp e i.size (modeOf D) (zeroCs P e) s x h = .ok u h') : Does P j B0 (Builtin.append_ #[t, tx] ty #[sv, v]) ρ w h' u := by
  obtain ⟨i', z, hi', hiz, _⟩ := zOK_inv hz
  rw [hi] at hi'; injection hi' with hi'; subst hi'
  obtain ⟨new, n, xs, ef, hn, hsrc⟩ := srcEls_ok (c := 42) hz hi hiz hD hsk hr hx ee
  cases new with
  | nil =>
    have ef : bc (isSl s) (Rs.ok s h) (Rs.bad 43) = Rs.ok u h' := ef
    obtain ⟨h1, ef⟩ := bcR ef badNe
    injection ef with e1 e2
    subst e1; subst e2
    obtain rfl : n = 0 := hn.len.symm
    obtain ⟨hne, A, l, c, rfl, hlc⟩ := isSl_ok h1 hs
    exact ⟨_, w, ρ, append_none (ty := ty) ht hi hiz hsrc hlc (List.length_eq_zero_iff.1 (by rw [hn.xlen, Nat.zero_mul])), .same hr hs hne⟩
  | cons a new =>
    have hn0 : 0 < n := by rw [← hn.len]; simp
    have ef : app0 h e i.size s (a :: new) = .ok u h' := ef
    have hll : lenL (a :: new) = n := by rw [lenL_eq]; exact hn.len
    cases s with
    | sl o m f l c =>
      have ef : bc (Nat.ble (l + lenL (a :: new)) 1048576) (app1 h e i.size o m f l c (l + lenL (a :: new)) (a :: new)) (.bad 72) = .ok u h' := ef
      obtain ⟨h1, ef⟩ := bcR ef badNe
      rw [ble_eq, decide_eq_true_eq] at h1
      rw [hll] at h1 ef
      exact app1_ok ht hz hi hiz hr hn hsrc h1 hn0 hs ef
    | z q =>
      have ef : bc (Nat.ble (lenL (a :: new)) 1048576) (bc (Nat.beq q 2) (appNew h e i.size (a :: new) [] 0) (bc (Nat.beq q 3) (appNew h e i.size (a :: new) [] 0) (.bad 41))) (.bad 72) = .ok u h' := ef
      obtain ⟨h1, ef⟩ := bcR ef badNe
      rw [ble_eq, decide_eq_true_eq, hll] at h1
      rw [beq_eq, beq_eq] at ef
      have hnil : NewP ρ j i.size 0 [] [] := ⟨rfl, fun x hx => (by cases hx), .nil, fun x hx => (by cases hx)⟩
      by_cases h2 : q = 2
      · subst h2
        simp only [decide_true, bc_t] at ef
        cases hs with
        | sn => exact appNew_ok ht hz hi hiz hr hnil hn (fun w0 _ => by simp [Builtin.firstCells]) hsrc (by omega) (by omega) ef
      · by_cases h3 : q = 3
        · subst h3
          have ef : appNew h e i.size (a :: new) [] 0 = .ok u h' := ef
          cases hs with
          | s0 b => exact appNew_ok ht hz hi hiz hr hnil hn (fun w0 _ => by simp [Builtin.firstCells, loadCells, loadCellsFrom]) hsrc (by omega) (by omega) ef
        · simp only [h2, h3, decide_false, bc_f] at ef; cases ef
    | _ => cases ef
end
end Go.Ev
end
section
namespace Go.Ev
open Go
section
variable {P : Program} {ρ ρ' : Rho} {j B0 : Nat} {H H' : Array Obj} {w : World} {h h' : Hp} {u : AV}
theorem u8_fz (n : Nat) : Fz n (n, n + 1) := .inr (Nat.le_refl _)
theorem aS2b_ok {t : TypeId} {x : AV} {v : Value} (hv : VR ρ j x v) (ee : aS2b t x h = .ok u h') : ∃ bs : ByteArray, v = .string bs ∧ MakesP P j ρ w (Conv.stringToBytes t bs) (aS2b t x) h t u h' := by
  cases x with
  | s l c =>
    have ee0 := ee
    have ee : nC l (.bad 52) (fun _ => newc (slN l (2 * l)) t 1 l (pushB (strEls c l) 0 .e) h) = Rs.ok u h' := ee
    rcases nCR ee with ⟨_, e⟩ | ⟨l', hl', ee⟩
    · cases e
    · obtain ⟨bs, rfl, rfl, rfl⟩ := hv.str
      refine ⟨bs, rfl, .inl ⟨_, _, _, _, ⟨_, _, rfl⟩, ee0.trans ee.symm, ?_⟩⟩
      obtain ⟨h1, h2, h3⟩ := strEls_flat (bs := bs.data.toList) bs.data.toList.length (Nat.le_refl _)
      rw [Nat.sub_self, List.drop_zero] at h1
      have hT := push_ok (TrOK.nil 1) h3
      rw [Nat.zero_add, h2] at hT
      refine ⟨by omega, hT, ?_⟩
      obtain ⟨cap, w1, hch, hw1, hcap⟩ : ∃ cap w1, (choose (.appendCap bs.size 0 t)).run P w = .ok cap w1 ∧ w1 = { w with drawn := w.drawn + 1 } ∧ bs.size ≤ cap := by
        exact ⟨(Question.appendCap bs.size 0 t).cut (w.tape w.drawn (.appendCap bs.size 0 t)), { w with drawn := w.drawn + 1 }, by simp [Question.forced], rfl, by simp [Question.cut]⟩
      subst hw1
      have hcs : ((bs.data.map fun b => Value.int .u8 (b.toNat : Int)) ++ Array.replicate (cap - bs.size) (Value.int .u8 0)).size = cap := by
        have : bs.data.size = bs.size := rfl
        simp [this]; omega
      refine ⟨.slice (some ⟨w.heap.size, 0, none⟩) bs.size cap, { { w with drawn := w.drawn + 1 } with heap := w.heap.push (.cells ((bs.data.map fun b => Value.int .u8 (b.toNat : Int)) ++ Array.replicate (cap - bs.size) (Value.int .u8 0)) t (cap, cap + 1)) }, _, t, (cap, cap + 1), ?_, rfl, rfl, rfl, rfl, by rw [hcs]; exact u8_fz _, ?_, fun q hq => ?_, fun ρ' o _ e e2 e3 => ⟨?_, by intro h; cases h⟩⟩
      · simp only [Conv.stringToBytes, Sem.run_bind, hch, Result.andThen_ok]
        simp only [newRow, newObj, Sem.run_bind, Sem.run, Result.andThen_ok, markStringish, shape, freeze, Sem.run_pure]
        simp only [World.shape?, Array.getElem?_push_size, Result.andThen_ok, Sem.run]
        congr 1
        simp only [World.freeze]
        rw [if_neg (by omega)]
        congr 1
        apply Array.ext_getElem?
        intro q
        rw [Array.getElem?_modify, Array.getElem?_push, Array.getElem?_push]
        by_cases hq : w.heap.size = q
        · subst hq
          simp [hcs]
        · have hq' : ¬ q = w.heap.size := fun e => hq e.symm
          simp [hq, hq']
      · rw [hcs, Nat.mul_one]; exact hcap
      · rw [Nat.mul_one] at hq
        have hq : q < bs.data.toList.length := hq
        rw [push_flat (TrOK.nil 1) (by omega) h3, if_neg (by omega), Nat.zero_mul, Nat.sub_zero, Nat.zero_add, h1]
        have hqs : q < bs.data.size := by simpa using hq
        refine ⟨.int .u8 (bs.data[q].toNat : Int), ?_, ?_⟩
        · rw [Array.getElem?_append_left (by simpa using hqs), Array.getElem?_map, Array.getElem?_eq_getElem hqs]; rfl
        · rw [List.getElem?_map, Array.getElem?_toList, Array.getElem?_eq_getElem hqs]
          exact u8_vr _
      · refine VR.sl (j := j) (f := 0) (l := bs.size) (c := 2 * bs.size) e (by omega) (fun hh => by omega) (by omega) (fun _ _ => ?_)
        rw [e2, e3, hcs]; omega
  | _ => cases ee
theorem aSame_ok {x : AV} {v : Value} (hr : HR P ρ j B0 h w.heap) (hv : VR ρ j x v) (ee : aSame x h = .ok u h') : ∃ a l c, v = .slice (some a) l c ∧ Does P j B0 (do markStringish a; pure v) ρ w h' u := by
  cases x with
  | sl o m f l c =>
    have ee : nC l (.bad 53) (fun _ => Ob.cC (h.ob o) (.bad 53) fun _ _ w _ => bc w (.ok (.sl o m f l c) h) (.bad 53)) = Rs.ok u h' := ee
    rcases nCR ee with ⟨_, e⟩ | ⟨l', hl', ee⟩
    · cases e
    · obtain ⟨t', k, w', ms, ho, ee⟩ := cC_ok ee badNe
      obtain ⟨hw, ee⟩ := bcR ee badNe
      subst hw
      injection ee with e1 e2
      subst e1; subst e2
      cases hv with
      | sl0 => omega
      | sl hl hle hc hc' hroom =>
        rename_i B X cap
        refine ⟨_, _, _, rfl, ?_⟩
        have cr := hr.cr ho
        have hB0 : B0 ≤ B := cr.low rfl _ _ hl
        have hBs := (hr.fresh _ _ _ hl).2.2
        cases hob : w.heap[B]? with
        | none => rw [Array.getElem?_eq_none_iff] at hob; omega
        | some ob =>
          have keepAll : ∀ H' : Array Obj, H'.size = w.heap.size → (∀ b, b ≠ B → H'[b]? = w.heap[b]?) → (∀ cs el fz, w.heap[B]? = some (.cells cs el fz) → ∃ fz', H'[B]? = some (.cells cs el fz') ∧ (Fz cs.size fz → Fz cs.size fz')) → (∀ cs el fz, ob = .cells cs el fz → True) →
              (∃ cs el fz, ob = .cells cs el fz) → HR P ρ j B0 h H' ∧ Tn B0 ρ ρ w.heap H' := by
            intro H' hs1 hs2 hs3 _ _
            have crn : CR ρ j B0 H' o k true ms := by
              refine ⟨cr.pos, cr.kk, cr.low, cr.tr, fun me hme B' X' e => ?_, cr.ord⟩
              by_cases hb : B' = B
              · subst hb
                obtain ⟨cs, hbk, hx, hcc⟩ := cr.mem me hme B' X' e
                obtain ⟨el, fz, hg, hfz⟩ := hbk.get
                obtain ⟨fz', hg', hfz'⟩ := hs3 cs el fz hg
                exact ⟨cs, ⟨⟨el, fz', hg', hfz' hfz⟩, hbk.sz⟩, hx, hcc⟩
              · exact (cr.mem me hme B' X' e).keep ρ.le_refl rfl (hs2 B' hb)
            have := hr.upd (o := o) (ob := h.ob o) (h' := h) (ρ' := ρ) (H' := H') (fun q => by by_cases e : o = q <;> simp [e]) (Nat.le_refl _) (Nat.le_refl _) ρ.le_refl (by omega) (fun _ _ _ _ h => h)
              (fun m p e => by have := hr.fresh _ m p e; exact ⟨this.1, this.2.1, by omega, .inl ⟨m, p.2, e⟩⟩) (fun b hb hor => hs2 b (by
                rintro rfl
                rcases hor with h | h
                · omega
                · exact h _ _ hl)) (by rw [ho]; exact crn) (.inl (hr.lt ho (by intro h; cases h))) (fun t k w ms e => hr.ids _ t k w ms e)
            exact this
          have hne : AV.sl o m f l c ≠ top := by intro h; cases h
          cases ob with
          | cells cs el fz =>
            have run : (do markStringish ⟨B, X + f, none⟩; pure (Value.slice (some ⟨B, X + f, none⟩) l cap) : Sem Value).run P w = .ok (.slice (some ⟨B, X + f, none⟩) l cap) (w.freeze { block := B, off := cs.size } 1) := by
              simp [markStringish, shape, World.shape?, hob, freeze, Sem.run]
            have hfre : w.freeze { block := B, off := cs.size } 1 = { w with heap := w.heap.modify B fun | .cells c elem (lo, hi) => .cells c elem (if lo == hi then (cs.size, cs.size + 1) else (min lo cs.size, max hi (cs.size + 1))) | o => o } := by
              simp [World.freeze] <;> rfl
            obtain ⟨_, hgB⟩ := Array.getElem?_eq_some_iff.1 hob
            obtain ⟨a1, a2⟩ := keepAll (w.heap.modify B fun | .cells c elem (lo, hi) => .cells c elem (if lo == hi then (cs.size, cs.size + 1) else (min lo cs.size, max hi (cs.size + 1))) | o => o) (by simp) (fun b hb => by rw [Array.getElem?_modify, if_neg (fun e => hb e.symm)]) (fun cs' el' fz' hg => by
                rw [hob] at hg; injection hg with hg; injection hg with g1 g2 g3; subst g1; subst g2; subst g3
                obtain ⟨lo, hi⟩ := fz
                refine ⟨if lo == hi then (cs.size, cs.size + 1) else (min lo cs.size, max hi (cs.size + 1)), ?_, fun hF => ?_⟩
                · rw [Array.getElem?_modify, if_pos rfl, hob]; rfl
                · have hF : lo = hi ∨ cs.size ≤ lo := hF
                  by_cases e : lo = hi
                  · simp only [e, beq_self_eq_true, if_true]; exact .inr (Nat.le_refl _)
                  · have : (lo == hi) = false := by simpa using e
                    rw [this]
                    exact .inr (by show cs.size ≤ min lo cs.size; omega)) (fun _ _ _ _ => trivial) ⟨cs, el, fz, rfl⟩
            rw [hfre] at run
            exact ⟨_, _, ρ, run, rfl, rfl, rfl, a2, a1, .sl hl hle hc hc' hroom, hne⟩
          | _ =>
            have run : (do markStringish ⟨B, X + f, none⟩; pure (Value.slice (some ⟨B, X + f, none⟩) l cap) : Sem Value).run P w = .ok (.slice (some ⟨B, X + f, none⟩) l cap) w := by
              simp [markStringish, shape, World.shape?, hob, Sem.run]
            exact ⟨_, w, ρ, run, .same hr (.sl hl hle hc hc' hroom) hne⟩
  | _ => cases ee
end
end Go.Ev
end
section
namespace Go.Ev
open Go
section
variable {P : Program} {ρ ρ' : Rho} {j B0 : Nat} {H H' : Array Obj} {w : World} {h h' : Hp} {u : AV}
theorem goInt_vr {n : Nat} (h : n < 9223372036854775808) : VR ρ j (.i 3 n) (goInt (n : Int)) := by
  refine .mkI ?_ rfl ?_
  · simp [inR, IntKind.min, IntKind.max, IntKind.signed, IntKind.bits]; omega
  · simp [uOf, IntKind.bits]; omega
theorem flat_take {α : Type} {k : Nat} : ∀ (l : List (List α)) (n : Nat), (∀ x ∈ l, x.length = k) → (l.take n).flatten = l.flatten.take (n * k)
  | [], n, _ => by simp
  | x :: l, 0, _ => by simp
  | x :: l, n + 1, h => by
    rw [List.take_succ_cons, List.flatten_cons, List.flatten_cons, flat_take l n (fun y hy => h y (by simp [hy])), Nat.succ_mul, List.take_append, h x (by simp), List.take_of_length_le (l := x) (by rw [h x (by simp)]; omega), show n * k + k - k = n * k by omega]
theorem aCopy_ok {dt st ty e : TypeId} {i : TypeInfo} {d s : AV} {dv sv : Value} (ht : P.underlying dt = some (.slice e)) (hi : P.info? e = some i) (hr : HR P ρ j B0 h w.heap) (hd : VR ρ j d dv) (hs : VR ρ j s sv)
    (ee : aCopy i.size d s h = .ok u h') : Does P j B0 (Builtin.copy_ #[dt, st] ty #[dv, sv]) ρ w h' u := by
  have none0 : ∀ (A : Option Addr) (dc : Nat) (B : Option Addr) (sl sc : Nat) (w : World), (Builtin.copy_ #[dt, st] ty #[.slice A 0 dc, .slice B sl sc]).run P w = .ok (goInt 0) w := by
    intro A dc B sl sc w
    cases A <;> cases B <;> simp [Builtin.copy_, run_underlying ht, sizeOf, typeInfo, hi, Builtin.lenOf, Builtin.firstCells, storeCells, loadCells, loadCellsFrom, goInt]
  cases d with
  | sl o m f l c =>
    have ee : elsOf h i.size s (.bad 45) (fun els => aCopy.aCopy1 i.size h o m f (takeL l els)) = .ok u h' := ee
    obtain ⟨A, sl, sc, els, xs, rfl, ep, e1⟩ := elsOf_ok hr hs ee
    have e1 : lC (takeL l els) (.ok (.i 3 0) h) (fun _ _ => bc (Nat.ble (lenL (takeL l els)) 1048576) (stv h o m f (i.size * lenL (takeL l els)) (catL (takeL l els)) (.i 3 (lenL (takeL l els)))) (.bad 73)) = .ok u h' := e1
    obtain ⟨M, hM, hc⟩ : ∃ M, Nat.min sl l = M ∧ ((M = sl ∧ sl ≤ l) ∨ (M = l ∧ l ≤ sl)) := by
      rcases Nat.le_total sl l with h | h
      · exact ⟨sl, Nat.min_eq_left h, .inl ⟨rfl, h⟩⟩
      · exact ⟨l, Nat.min_eq_right h, .inr ⟨rfl, h⟩⟩
    rw [takeL_eq, lenL_eq, catL_flat, flat_take els l ep.one] at e1
    have hlen : (els.take l).length = M := by rw [List.length_take, ep.len, Nat.min_comm]; exact hM
    have hrun := ep.run M (by omega)
    have hvs : VRs ρ j (els.flatten.take (l * i.size)) (xs.take (l * i.size)) := ep.vrs.take _
    have hxs : xs.take (M * i.size) = xs.take (l * i.size) := by
      rcases hc with ⟨rfl, h⟩ | ⟨rfl, h⟩
      · rw [List.take_of_length_le (by rw [ep.xlen]; exact Nat.le_refl _), List.take_of_length_le (by rw [ep.xlen]; exact Nat.mul_le_mul_right _ h)]
      · rfl
    rw [hxs] at hrun
    have hone : ∀ x ∈ xs.take (l * i.size), x.oneCell' = true := fun x hx => ep.cell1 x (List.mem_of_mem_take hx)
    rw [hlen] at e1
    cases hq : els.take l with
    | nil =>
      have hz : M = 0 := by rw [← hlen, hq]; rfl
      subst hz
      rw [hq] at e1
      injection e1 with e2 e3
      subst e2; subst e3
      have hnil : xs.take (l * i.size) = [] := by
        rw [← hxs, Nat.zero_mul]; rfl
      rw [hnil] at hrun
      have hrun := hrun w rfl
      have : ∀ (A' : Option Addr) (dc : Nat), (Builtin.copy_ #[dt, st] ty #[.slice A' l dc, .slice A sl sc]).run P w = .ok (goInt 0) w := by
        intro A' dc
        cases A' <;> simp [Builtin.copy_, run_underlying ht, sizeOf, typeInfo, hi, Builtin.lenOf, hM, hrun, storeCells]
      cases hd with
      | sl hl _ _ _ _ => exact ⟨_, w, ρ, this _ _, .same hr (goInt_vr (n := 0) (by omega)) (by intro h; cases h)⟩
      | sl0 _ _ => exact ⟨_, w, ρ, this _ _, .same hr (goInt_vr (n := 0) (by omega)) (by intro h; cases h)⟩
    | cons a r =>
      rw [hq] at e1
      have e1 : bc (Nat.ble M 1048576) (stv h o m f (i.size * M) (els.flatten.take (l * i.size)) (.i 3 M)) (.bad 73) = .ok u h' := e1
      obtain ⟨hMs, e1⟩ := bcR e1 badNe
      rw [ble_eq, decide_eq_true_eq] at hMs
      have hfl : (els.flatten.take (l * i.size)).length = i.size * M := by
        rw [List.length_take, flat_len els ep.one, ep.len, Nat.mul_comm i.size]
        rcases hc with ⟨rfl, h⟩ | ⟨rfl, h⟩
        · rw [Nat.min_eq_right (Nat.mul_le_mul_right _ h)]
        · rw [Nat.min_eq_left (Nat.mul_le_mul_right _ h)]
      rw [← hfl] at e1
      have hpos : 0 < M := by rw [← hlen, hq]; simp
      cases hd with
      | sl hl hle _ _ _ =>
        obtain ⟨rfl, H', hst, tn, hr'⟩ := stv_ok (w := w) hl hr hvs hone e1
        have hrun := hrun w rfl
        have hst := hst w rfl
        refine ⟨goInt (M : Int), { w with heap := H' }, ρ, ?_, DoesP.mem tn hr' (goInt_vr ?_) (by intro h; cases h)⟩
        · simp [Builtin.copy_, run_underlying ht, sizeOf, typeInfo, hi, Builtin.lenOf, hM, hrun, hst]
        · omega
      | sl0 _ _ => omega
  | z q =>
    have ee : bc (isSl s) (bc (Nat.beq q 2) (.ok (.i 3 0) h) (bc (Nat.beq q 3) (.ok (.i 3 0) h) (.bad 46))) (.bad 46) = Rs.ok u h' := ee
    obtain ⟨h1, ee⟩ := bcR ee badNe
    obtain ⟨_, A, sl, sc, rfl, _⟩ := isSl_ok h1 hs
    rw [beq_eq, beq_eq] at ee
    by_cases h2 : q = 2
    · subst h2
      injection ee with e1 e2
      subst e1; subst e2
      cases hd with
      | sn => exact ⟨_, w, ρ, none0 _ _ _ _ _ w, .same hr (goInt_vr (n := 0) (by omega)) (by intro h; cases h)⟩
    · by_cases h3 : q = 3
      · subst h3
        injection ee with e1 e2
        subst e1; subst e2
        cases hd with
        | s0 => exact ⟨_, w, ρ, none0 _ _ _ _ _ w, .same hr (goInt_vr (n := 0) (by omega)) (by intro h; cases h)⟩
      · simp only [h2, h3, decide_false, bc_f] at ee; cases ee
  | _ => cases ee
theorem rep_len {α : Type} (z : List α) (n : Nat) : (List.replicate n z).flatten.length = n * z.length := by simp
theorem aClr_ok {t ty e : TypeId} {s : AV} {sv : Value} (ht : P.underlying t = some (.slice e)) (hz : zOK P e = true) (hr : HR P ρ j B0 h w.heap) (hs : VR ρ j s sv) (ee : aClr (szOf P e) (zeroCs P e) s h = .ok u h') : Does P j B0 (Builtin.clear_ #[t] ty #[sv]) ρ w h' u := by
  obtain ⟨i, z, hi, hiz, _, hlen, hzr, hzv⟩ := zOK_inv hz
  rw [szOf_eq hi] at ee
  have none0 : ∀ (A : Option Addr) (c : Nat) (w : World), (Builtin.clear_ #[t] ty #[.slice A 0 c]).run P w = .ok (.tuple #[]) w := by
    intro A c w
    cases A <;> simp [Builtin.clear_, run_underlying ht]
  have hne : und ≠ top := by intro h; cases h
  cases s with
  | sl o m f l c =>
    have ee : nC l (.ok und h) (fun _ => bc (oneL (zeroCs P e)) (stv h o m f (i.size * l) (catL (repL (zeroCs P e) l)) und) (.bad 71)) = .ok u h' := ee
    rcases nCR ee with ⟨rfl, ee⟩ | ⟨l', hl', ee⟩
    · injection ee with e1 e2
      subst e1; subst e2
      cases hs with
      | sl _ _ _ _ _ => exact ⟨_, w, ρ, none0 _ _ w, .same hr .und hne⟩
      | sl0 _ _ => exact ⟨_, w, ρ, none0 _ _ w, .same hr .und hne⟩
    · obtain ⟨h1, ee⟩ := bcR ee badNe
      have hzc := zeroCs_ok (ρ := ρ) (j := j) hzv
      have hv := rep_vrs hzc l
      have hs' : z.cells.toList.length = i.size := by rw [← hzc.length, hlen]
      rw [catL_flat, show i.size * l = (repL (zeroCs P e) l).flatten.length by rw [hv.length, rep_len, hs', Nat.mul_comm]] at ee
      have hrr := rep_range (l := z.cells.toList) l
      have hzl : (Builtin.zeroCells z.cells l).toList = (List.replicate l z.cells.toList).flatten := by
        rw [← hrr]; simp [Builtin.zeroCells]
      cases hs with
      | sl hl hle _ _ _ =>
        obtain ⟨rfl, H', hst, tn, hr'⟩ := stv_ok (w := w) hl hr hv (fun y hy => by
          obtain ⟨a, ha, hb⟩ := List.mem_flatten.1 hy
          rw [List.eq_of_mem_replicate ha] at hb
          exact oneL_one h1 hzc y hb) ee
        have hst := hst w rfl
        rw [← hzl] at hst
        refine ⟨.tuple #[], { w with heap := H' }, ρ, ?_, DoesP.mem tn hr' .und hne⟩
        subst hl'
        simp [Builtin.clear_, run_underlying ht, hzr, hst]
      | sl0 _ _ => omega
  | z q =>
    have ee : bc (Nat.beq q 2) (.ok und h) (bc (Nat.beq q 3) (.ok und h) (.bad 48)) = Rs.ok u h' := ee
    rw [beq_eq, beq_eq] at ee
    by_cases h2 : q = 2
    · subst h2
      injection ee with e1 e2
      subst e1; subst e2
      cases hs with
      | sn => exact ⟨_, w, ρ, none0 _ _ w, .same hr .und hne⟩
    · by_cases h3 : q = 3
      · subst h3
        injection ee with e1 e2
        subst e1; subst e2
        cases hs with
        | s0 => exact ⟨_, w, ρ, none0 _ _ w, .same hr .und hne⟩
      · simp only [h2, h3, decide_false, bc_f] at ee; cases ee
  | _ => cases ee
end
end Go.Ev
end
section
namespace Go.Ev
open Go
section
variable {P : Program} {ρ : Rho} {j : Nat} {w : World}
def Same1 : Value → Value → Bool
  | .int k a, .int k' b => decide (k = k') && a == b
  | .string a, .string b => a == b
  | .bool a, .bool b => a == b
  | _, _ => false
def Kind1 (c : Nat) : Value → Prop
  | .int k _ => kcode k = c
  | .bool _ => c = 8
  | .string _ => c = 9
  | _ => False
inductive Kinds : List Nat → List Value → Prop
  | nil : Kinds [] []
  | cons {c : Nat} {x : Value} {cs : List Nat} {xs : List Value} (h : Kind1 c x) (t : Kinds cs xs) : Kinds (c :: cs) (x :: xs)
theorem Kinds.length : ∀ {ks : List Nat} {xs : List Value}, Kinds ks xs → ks.length = xs.length
  | _, _, .nil => rfl
  | _, _, .cons _ t => by simp [t.length]
def eqAll : List Value → List Value → Bool
  | x :: xs, y :: ys => Same1 x y && eqAll xs ys
  | _, _ => true
theorem eqAll_app : ∀ (a a' b b' : List Value), a.length = a'.length → eqAll (a ++ b) (a' ++ b') = (eqAll a a' && eqAll b b')
  | [], [], b, b', _ => rfl
  | x :: a, y :: a', b, b', h => by
    show (Same1 x y && eqAll (a ++ b) (a' ++ b')) = (Same1 x y && eqAll a a' && eqAll b b')
    rw [eqAll_app a a' b b' (by simpa using h), Bool.and_assoc]
  | [], _ :: _, _, _, h => by simp at h
  | _ :: _, [], _, _, h => by simp at h
theorem Kinds.split : ∀ {a b : List Nat} {xs : List Value}, Kinds (a ++ b) xs → ∃ u v, xs = u ++ v ∧ Kinds a u ∧ Kinds b v
  | [], b, xs, h => ⟨[], xs, rfl, .nil, h⟩
  | c :: a, b, _, .cons h t => by
    obtain ⟨u, v, rfl, h1, h2⟩ := t.split (a := a)
    exact ⟨_ :: u, v, rfl, .cons h h1, h2⟩
theorem bytes_eq (a b : ByteArray) : (a == b) = (a.data.toList == b.data.toList) := by
  have : (a == b) = (a.data == b.data) := rfl
  rw [this, Bool.eq_iff_iff]
  constructor
  · intro h; have := eq_of_beq h; rw [this]; simp
  · intro h; have := Array.ext' (eq_of_beq h); rw [this]; simp
theorem same1_refl {c : Nat} {x : Value} (h : Kind1 c x) : Same1 x x = true := by
  cases x <;> first | (cases h; done) | simp [Same1, bytes_eq]
theorem same1_eq {x y : Value} (h : Same1 x y = true) : x = y := by
  cases x <;> cases y <;> simp [Same1, bytes_eq] at h
  · rw [h]
  · rw [h.1, h.2]
  · rename_i a b; cases a; cases b; congr 2
theorem eqV_ok {a b : AV} {x y : Value} (ha : VR ρ j a x) (hb : VR ρ j b y) (h0 : eqV a b ≠ 0) : Same1 x y = decide (eqV a b = 2) ∧ ∃ c, Kind1 c x ∧ Kind1 c y := by
  cases a with
  | i k u => cases b with
    | i k' u' =>
      obtain ⟨K, z, r, rfl, rfl, rfl⟩ := ha.int
      obtain ⟨K', z', r', rfl, rfl, rfl⟩ := hb.int
      have E : eqV (.i (kcode K) (uOf K z)) (.i (kcode K') (uOf K' z')) = bc (Nat.beq (kcode K) (kcode K')) (bc (Nat.beq (uOf K z) (uOf K' z')) 2 1) 0 := rfl
      rw [E, beq_eq] at h0 ⊢
      by_cases hk : kcode K = kcode K'
      · obtain rfl := kcode_inj hk
        simp only [decide_true, bc_t] at h0 ⊢
        refine ⟨?_, _, rfl, rfl⟩
        rw [beq_eq]
        by_cases hz : z = z'
        · subst hz; simp [Same1, bc]
        · have : uOf K z ≠ uOf K z' := fun e => hz (uOf_inj r r' e)
          simp [Same1, this, hz, bc]
      · simp [hk, bc] at h0
    | _ => exact absurd rfl h0
  | b c => cases b with
    | b c' =>
      obtain rfl := ha.bool
      obtain rfl := hb.bool
      refine ⟨?_, 8, rfl, rfl⟩
      cases c <;> cases c' <;> rfl
    | _ => exact absurd rfl h0
  | s l c => cases b with
    | s l' c' =>
      obtain ⟨s, rfl, rfl, rfl⟩ := ha.str
      obtain ⟨s', rfl, rfl, rfl⟩ := hb.str
      refine ⟨?_, 9, rfl, rfl⟩
      have E : eqV (.s s.data.toList.length (strC s.data.toList 0)) (.s s'.data.toList.length (strC s'.data.toList 0)) = bc (andB (Nat.beq s.data.toList.length s'.data.toList.length) (Nat.beq (strC s.data.toList 0) (strC s'.data.toList 0))) 2 1 := rfl
      rw [E, eqC]
      show (s == s') = _
      rw [bytes_eq]
      cases (s.data.toList == s'.data.toList) <;> rfl
    | _ => exact absurd rfl h0
  | _ => exact absurd rfl h0
theorem mapN_eq (f : AV → Nat) : ∀ l : List AV, mapN f l = l.map f
  | [] => rfl
  | x :: l => by show f x :: mapN f l = _; rw [mapN_eq f l]; rfl
theorem zipN_eq (f : AV → AV → Nat) : ∀ l l' : List AV, zipN f l l' = List.zipWith f l l'
  | [], _ => rfl
  | _ :: _, [] => rfl
  | x :: l, y :: l' => by show f x y :: zipN f l l' = _; rw [zipN_eq f l l']; rfl
theorem allN_eq : ∀ (l : List Nat) (a : Nat), allN a l = true → ∀ b ∈ l, b = a
  | [], _, _, b, hb => by cases hb
  | c :: l, a, h, b, hb => by
    have h : bc (Nat.beq a c) (allN a l) false = true := h
    cases e : Nat.beq a c with
    | false => rw [e] at h; cases h
    | true =>
      rw [e] at h
      rcases List.mem_cons.1 hb with rfl | hb
      · exact (Nat.eq_of_beq_eq_true e).symm
      · exact allN_eq l a h b hb
theorem uni_eq {l : List Nat} (h : uni l ≠ 0) : ∀ b ∈ l, b = uni l := by
  cases l with
  | nil => intro b hb; cases hb
  | cons a l =>
    have E : uni (a :: l) = bc (allN a l) a 0 := rfl
    rw [E] at h ⊢
    cases e : allN a l with
    | false => rw [e] at h; exact absurd rfl h
    | true =>
      intro b hb
      rcases List.mem_cons.1 hb with rfl | hb
      · rfl
      · exact allN_eq l a e b hb
theorem eqW_ok {a b : AV} {x y : Value} (ha : VR ρ j a x) (hb : VR ρ j b y) (h0 : eqW a b ≠ 0) : Same1 x y = decide (eqW a b = 2) ∧ ∃ c, Kind1 c x ∧ Kind1 c y := by
  have E : eqW a b = bc (isL a) (bc (isL b) (uni (zipN eqV (lsOf a) (lsOf b))) (uni (mapN (fun q => eqV q b) (lsOf a)))) (bc (isL b) (uni (mapN (eqV a) (lsOf b))) (eqV a b)) := rfl
  rw [E] at h0 ⊢
  cases h1 : isL a with
  | true =>
    obtain ⟨a', ea, va⟩ := isL_lane h1 ha
    cases h2 : isL b with
    | true =>
      obtain ⟨b', eb, vb⟩ := isL_lane h2 hb
      rw [h1, h2, bc_t, bc_t] at h0
      rw [bc_t, bc_t]
      have hm : eqV a' b' ∈ zipN eqV (lsOf a) (lsOf b) := by
        rw [zipN_eq]; exact List.mem_of_getElem? (i := j) (by rw [List.getElem?_zipWith, ea, eb])
      have := uni_eq h0 _ hm
      rw [← this] at h0 ⊢
      exact eqV_ok va vb h0
    | false =>
      rw [h1, h2, bc_t, bc_f] at h0
      rw [bc_t, bc_f]
      have hm : eqV a' b ∈ mapN (fun q => eqV q b) (lsOf a) := by
        rw [mapN_eq]; exact List.mem_of_getElem? (i := j) (by rw [List.getElem?_map, ea]; rfl)
      have := uni_eq h0 _ hm
      rw [← this] at h0 ⊢
      exact eqV_ok va hb h0
  | false =>
    cases h2 : isL b with
    | true =>
      obtain ⟨b', eb, vb⟩ := isL_lane h2 hb
      rw [h1, h2, bc_f, bc_t] at h0
      rw [bc_f, bc_t]
      have hm : eqV a b' ∈ mapN (eqV a) (lsOf b) := by
        rw [mapN_eq]; exact List.mem_of_getElem? (i := j) (by rw [List.getElem?_map, eb]; rfl)
      have := uni_eq h0 _ hm
      rw [← this] at h0 ⊢
      exact eqV_ok ha vb h0
    | false =>
      rw [h1, h2, bc_f, bc_f] at h0
      rw [bc_f, bc_f]
      exact eqV_ok ha hb h0
theorem okK1_ok {c : Nat} {a : AV} {x : Value} (ha : VR ρ j a x) (h : okK1 c a = true) : Kind1 c x := by
  cases a with
  | i k u =>
    obtain ⟨K, z, r, rfl, rfl, rfl⟩ := ha.int
    have h : Nat.beq (kcode K) c = true := h
    rw [beq_eq, decide_eq_true_eq] at h; exact h
  | b q =>
    obtain rfl := ha.bool
    have h : Nat.beq c 8 = true := h
    rw [beq_eq, decide_eq_true_eq] at h; exact h
  | s l q =>
    obtain ⟨s, rfl, rfl, rfl⟩ := ha.str
    have h : Nat.beq c 9 = true := h
    rw [beq_eq, decide_eq_true_eq] at h; exact h
  | _ => cases h
theorem okK_ok {c : Nat} {a : AV} {x : Value} (ha : VR ρ j a x) (h : okK c a = true) : Kind1 c x := by
  have E : okK c a = bc (isL a) (okKL c (lsOf a)) (okK1 c a) := rfl
  rw [E] at h
  cases h1 : isL a with
  | false => rw [h1] at h; exact okK1_ok ha h
  | true =>
    rw [h1, bc_t] at h
    obtain ⟨a', ea, va⟩ := isL_lane h1 ha
    have all : ∀ (l : List AV), okKL c l = true → ∀ y ∈ l, okK1 c y = true := by
      intro l
      induction l with
      | nil => intro _ y hy; cases hy
      | cons b l ih =>
        intro h y hy
        have h : bc (okK1 c b) (okKL c l) false = true := h
        cases hb : okK1 c b with
        | false => rw [hb] at h; cases h
        | true =>
          rw [hb] at h
          rcases List.mem_cons.1 hy with rfl | hy
          · exact hb
          · exact ih h y hy
    exact okK1_ok va (all _ h _ (List.mem_of_getElem? ea))
theorem conf_ok : ∀ {ks : List Nat} {vs : List AV} {xs : List Value}, VRs ρ j vs xs → conf ks vs = true → Kinds ks xs
  | [], [], _, h, _ => by cases h; exact .nil
  | [], _ :: _, _, _, h => by cases h
  | _ :: _, [], _, _, h => by cases h
  | c :: ks, v :: vs, _, .cons hv t, h => by
    have h : bc (okK c v) (conf ks vs) false = true := h
    cases e : okK c v with
    | false => rw [e] at h; cases h
    | true => rw [e] at h; exact .cons (okK_ok hv e) (conf_ok t h)
theorem kind1_inj {c d : Nat} {x : Value} (h : Kind1 c x) (h' : Kind1 d x) : c = d := by
  cases x <;> first | (cases h; done) | skip
  · have h : c = 8 := h; have h' : d = 8 := h'; omega
  · exact h.symm.trans h'
  · have h : c = 9 := h; have h' : d = 9 := h'; omega
theorem eqV_le (a b : AV) : eqV a b ≤ 2 := by
  cases a <;> cases b <;> first | exact Nat.zero_le _ | skip
  · rename_i k u k' u'
    show bc (Nat.beq k k') (bc (Nat.beq u u') 2 1) 0 ≤ 2
    cases Nat.beq k k' <;> cases Nat.beq u u' <;> decide
  · rename_i a b
    cases a <;> cases b <;> decide
  · rename_i k u k' u'
    show bc (andB (Nat.beq k k') (Nat.beq u u')) 2 1 ≤ 2
    cases andB (Nat.beq k k') (Nat.beq u u') <;> decide
theorem eqW_le (v u : AV) : eqW v u ≤ 2 := by
  have uniLe : ∀ l : List Nat, (∀ b ∈ l, b ≤ 2) → uni l ≤ 2 := by
    intro l hl
    by_cases h0 : uni l = 0
    · omega
    · cases l with
      | nil => exact Nat.zero_le _
      | cons b l => have := uni_eq h0 b (by simp); rw [← this]; exact hl b (by simp)
  have E : eqW v u = bc (isL v) (bc (isL u) (uni (zipN eqV (lsOf v) (lsOf u))) (uni (mapN (fun q => eqV q u) (lsOf v)))) (bc (isL u) (uni (mapN (eqV v) (lsOf u))) (eqV v u)) := rfl
  rw [E]
  have z1 : ∀ l l' : List AV, ∀ b ∈ List.zipWith eqV l l', b ≤ 2 := by
    intro l
    induction l with
    | nil => intro l' b hb; simp at hb
    | cons x l ih =>
      intro l' b hb
      cases l' with
      | nil => simp at hb
      | cons y l' =>
        rcases List.mem_cons.1 hb with rfl | hb
        · exact eqV_le _ _
        · exact ih l' b hb
  cases isL v <;> cases isL u <;> simp only [bc]
  · exact eqV_le _ _
  · exact uniLe _ fun b hb => by rw [mapN_eq] at hb; obtain ⟨a, _, rfl⟩ := List.mem_map.1 hb; exact eqV_le _ _
  · exact uniLe _ fun b hb => by rw [mapN_eq] at hb; obtain ⟨a, _, rfl⟩ := List.mem_map.1 hb; exact eqV_le _ _
  · exact uniLe _ fun b hb => by rw [zipN_eq] at hb; exact z1 _ _ b hb
theorem eqVL_ok : ∀ {ks : List Nat} {vs us : List AV} {xs ys : List Value}, VRs ρ j vs xs → VRs ρ j us ys → Kinds ks xs → eqVL vs us ≠ 0 → Kinds ks ys ∧ eqAll xs ys = decide (eqVL vs us = 2)
  | _, [], [], _, _, .nil, .nil, .nil, _ => ⟨.nil, rfl⟩
  | _, [], _ :: _, _, _, .nil, _, _, h => absurd rfl h
  | _, _ :: _, [], _, _, _, .nil, _, h => absurd rfl h
  | _, v :: vs, u :: us, _, _, .cons hv tv, .cons hu tu, .cons hk tk, h => by
    have E : eqVL (v :: vs) (u :: us) = eqVL.eqVL2 (eqW v u) (eqVL vs us) := rfl
    have E2 : ∀ a r, eqVL.eqVL2 a r = nC a 0 fun a => nC a (bc (Nat.beq r 0) 0 1) fun _ => r := fun _ _ => rfl
    rw [E, E2] at h ⊢
    have h1 : eqW v u ≠ 0 := fun e => h (by rw [e]; rfl)
    obtain ⟨s1, c, k1, k2⟩ := eqW_ok hv hu h1
    have hc := kind1_inj hk k1
    subst hc
    have le3 := eqW_le v u
    have hr : eqVL vs us ≠ 0 := by
      intro e
      apply h
      rw [e]
      rcases hq : eqW v u with _ | _ | q
      · rfl
      · rfl
      · rfl
    obtain ⟨kr, er⟩ := eqVL_ok tv tu tk hr
    refine ⟨.cons k2 kr, ?_⟩
    show (Same1 _ _ && eqAll _ _) = _
    rw [s1, er]
    have : eqW v u = 1 ∨ eqW v u = 2 := by omega
    rcases this with e | e
    · rw [e]
      show (false && _) = decide (bc (Nat.beq (eqVL vs us) 0) 0 1 = 2)
      rw [beq_eq]; simp [hr, bc]
    · rw [e]
      show (true && _) = decide (eqVL vs us = 2)
      simp
end
end Go.Ev
end
section
namespace Go.Ev
open Go
section
variable {P : Program} {ρ : Rho} {j : Nat} {w : World}
def rep (g : Bool) (xs : List Value) : Value := match g with | true => .agg xs.toArray | false => xs.headD undef
def stoodOK (P : Program) : Nat → TypeId → Bool
  | 0, _ => false
  | n + 1, t => match P.underlying t with
    | some (.struct fs) => !P.stoodInHeld t && fs.toList.all fun f => f.name != "_" && stoodOK P n f.type
    | _ => true
theorem und_of {t : TypeId} {D : TypeDesc} (h : undT P t = D) (hD : D ≠ .invalid) : P.underlying t = some D := by
  unfold undT at h
  cases e : P.underlying t with
  | none => rw [e] at h; exact absurd h.symm hD
  | some d => rw [e] at h; rw [← h]
theorem part_rep {t : TypeId} {D : TypeDesc} {i : TypeInfo} (hD : P.underlying t = some D) (hi : P.info? t = some i) {pre xs post : List Value} (hl : xs.length = i.size) (hne : isAggD D = false → xs ≠ []) :
    (part t (pre ++ (xs ++ post)).toArray pre.length).run P w = .ok (rep (isAggD D) xs) w := by
  cases hg : isAggD D with
  | true =>
    simp [part, isAgg_run hD, hg, size_run hi, rep, hl.symm]
  | false =>
    cases xs with
    | nil => exact absurd rfl (hne hg)
    | cons x xs => simp [part, isAgg_run hD, hg, rep]
structure PlainP (P : Program) (t : TypeId) (g : Bool) (ks : List Nat) (d : Nat) : Prop where
  eq : ∀ n, d ≤ n → ∀ (xs ys : List Value) (w : World), Kinds ks xs → Kinds ks ys → (Op.equalIn n t (rep g xs) (rep g ys)).run P w = .ok (eqAll xs ys) w
  key : ∀ n, d ≤ n → ∀ (b : Bool) (xs : List Value) (w : World), Kinds ks xs → (Instr.checkKey b n t (rep g xs)).run P w = .ok () w
  ne : ks ≠ [] ∨ g = true
theorem kindsF_ok {g : TypeId → Option (List Nat)} {d : Nat} {fs0 : List Field} (ih : ∀ f ∈ fs0, ∀ a, g f.type = some a → ∃ D i, P.underlying f.type = some D ∧ P.info? f.type = some i ∧ PlainP P f.type (isAggD D) a d) (hnm : ∀ f ∈ fs0, f.name ≠ "_") :
    ∀ (fs : List Field) (o : Nat) (ks : List Nat), (∀ f ∈ fs, f ∈ fs0) → kindsF P g fs o = some ks → ∀ (n : Nat), d ≤ n → ∀ (pre pre' xs ys : List Value), pre.length = o → pre'.length = o → Kinds ks xs → Kinds ks ys →
      (∀ w, (forIn fs ((none : Option Bool), ()) (fun f __s => if f.name ≠ "_" then do
                let __do_lift ← part f.type (pre ++ xs).toArray f.offset
                let __do_lift_1 ← part f.type (pre' ++ ys).toArray f.offset
                let __do_lift ← Op.equalIn n f.type __do_lift __do_lift_1
                if (!__do_lift) = true then pure (ForInStep.done (some false, ()))
                  else pure (ForInStep.yield (none, ()))
              else pure (ForInStep.yield (none, ()))) : Sem (Option Bool × Unit)).run P w = .ok (if eqAll xs ys then (none, ()) else (some false, ())) w) ∧
      (∀ b w, (forIn fs PUnit.unit (fun f __s => if f.name ≠ "_" then do
              let __do_lift ← part f.type (pre ++ xs).toArray f.offset
              Instr.checkKey b n f.type __do_lift
              pure (ForInStep.yield PUnit.unit)
            else pure (ForInStep.yield PUnit.unit)) : Sem PUnit).run P w = .ok () w)
  | [], o, ks, _, h, n, _, pre, pre', xs, ys, _, _, hx, hy => by
    injection h with h; subst h
    cases hx; cases hy
    exact ⟨fun w => by simp [eqAll, Sem.run_pure], fun b w => by simp [Sem.run_pure]⟩
  | f :: fs, o, ks, hin, h, n, hn, pre, pre', xs, ys, hp, hp', hx, hy => by
    simp only [kindsF] at h
    cases ho : Nat.beq f.offset o with
    | false => rw [ho] at h; cases h
    | true =>
      rw [ho] at h
      cases hg : g f.type with
      | none => rw [hg] at h; cases h
      | some a =>
        rw [hg] at h
        simp only at h
        cases hs : Nat.beq (szOf P f.type) a.length with
        | false => rw [hs] at h; cases h
        | true =>
          rw [hs] at h
          cases hr : kindsF P g fs (o + a.length) with
          | none =>
            have hr' : kindsF P g fs (Nat.add o a.length) = none := hr
            rw [hr'] at h; cases h
          | some r =>
            have hr' : kindsF P g fs (Nat.add o a.length) = some r := hr
            rw [hr'] at h
            injection h with h
            subst h
            have ho : f.offset = o := Nat.eq_of_beq_eq_true ho
            have hs : szOf P f.type = a.length := Nat.eq_of_beq_eq_true hs
            obtain ⟨D, i, hD, hi, pp⟩ := ih f (hin f (by simp)) a hg
            rw [szOf_eq hi] at hs
            obtain ⟨u, v, rfl, ku, kv⟩ := hx.split
            obtain ⟨u', v', rfl, ku', kv'⟩ := hy.split
            have hnm' := hnm f (hin f (by simp))
            have hne : ∀ {z : List Value}, Kinds a z → isAggD D = false → z ≠ [] := by
              intro z hz hgD e
              rcases pp.ne with h | h
              · apply h
                have := hz.length
                rw [e] at this; simpa using this
              · rw [h] at hgD; cases hgD
            have p1 := fun w => part_rep (w := w) hD hi (pre := pre) (xs := u) (post := v) (by rw [← ku.length, hs]) (hne ku)
            have p2 := fun w => part_rep (w := w) hD hi (pre := pre') (xs := u') (post := v') (by rw [← ku'.length, hs]) (hne ku')
            rw [hp] at p1
            rw [hp'] at p2
            obtain ⟨r1, r2⟩ := kindsF_ok ih hnm fs (o + a.length) r (fun f hf => hin f (by simp [hf])) hr n hn (pre ++ u) (pre' ++ u') v v' (by simp [hp, ku.length]) (by simp [hp', ku'.length]) kv kv'
            have eqn := pp.eq n hn u u'
            have keyn := pp.key n hn
            have hul : u.length = u'.length := by rw [← ku.length, ← ku'.length]
            constructor
            · intro w
              rw [List.forIn_cons]
              simp only [Sem.run_bind, if_pos hnm', ho, p1, p2, Result.andThen_ok, eqn _ ku ku']
              rw [eqAll_app u u' v v' hul]
              cases eqAll u u' with
              | false => simp [Sem.run_pure]
              | true =>
                simp only [Bool.not_true, Bool.false_eq_true, if_false, Sem.run_pure, Result.andThen_ok, Bool.true_and]
                have := r1 w
                simp only [List.append_assoc] at this
                exact this
            · intro b w
              rw [List.forIn_cons]
              simp only [Sem.run_bind, if_pos hnm', ho, p1, Result.andThen_ok, keyn b u _ ku, Sem.run_pure]
              have := r2 b w
              simp only [List.append_assoc] at this
              exact this
theorem kindsT_ok : ∀ (d : Nat) (t : TypeId) (ks : List Nat), kindsT P d t = some ks → stoodOK P d t = true → ∃ D, P.underlying t = some D ∧ PlainP P t (isAggD D) ks d
  | 0, _, _, h, _ => by cases h
  | d + 1, t, ks, h, hst => by
    have E : kindsT P (d + 1) t = (match undT P t with
      | .int k => some [kcode k]
      | .bool => some [8]
      | .string => some [9]
      | .struct fs => kindsF P (kindsT P d) fs.toList 0
      | _ => none) := rfl
    rw [E] at h
    have one : ∀ (D : TypeDesc) (c : Nat), P.underlying t = some D → isAggD D = false → (∀ ms, D ≠ .interface ms) → ks = [c] → (∀ (n : Nat) (x y : Value) (w : World), Kind1 c x → Kind1 c y → (Op.equalIn (n + 1) t x y).run P w = .ok (Same1 x y) w) → (∀ (n : Nat) b (x : Value) w, Kind1 c x → (Instr.checkKey b (n + 1) t x).run P w = .ok () w) → PlainP P t (isAggD D) ks (d + 1) := by
      intro D c hD hg _ hk h1 h2
      subst hk
      rw [hg]
      refine ⟨fun n hn xs ys w hx hy => ?_, fun n hn b xs w hx => ?_, .inl (by simp)⟩
      · obtain ⟨m, rfl⟩ : ∃ m, n = m + 1 := ⟨n - 1, by omega⟩
        cases hx with
        | cons kx tx =>
          cases tx
          cases hy with
          | cons ky ty =>
            cases ty
            have := h1 m _ _ w kx ky
            show (Op.equalIn (m + 1) t _ _).run P w = .ok (Same1 _ _ && true) w
            rw [Bool.and_true]; exact this
      · obtain ⟨m, rfl⟩ : ∃ m, n = m + 1 := ⟨n - 1, by omega⟩
        cases hx with
        | cons kx tx => cases tx; exact h2 m b _ w kx
    cases hu : undT P t with
    | int k =>
      rw [hu] at h
      injection h with h
      have hD := und_of hu (by intro h; cases h)
      refine ⟨_, hD, one _ (kcode k) hD rfl (fun _ h => by cases h) h.symm (fun n x y w hx hy => ?_) (fun n b x w hx => ?_)⟩
      · cases x <;> first | (cases hx; done) | skip
        · have : kcode k = 8 := hx
          have := kcode_lt k; omega
        · cases y <;> first | (cases hy; done) | skip
          · have : kcode k = 8 := hy
            have := kcode_lt k; omega
          · obtain rfl := kcode_inj hx
            obtain rfl := kcode_inj hy
            simp [Op.equalIn, und_run hD, Same1]
          · have : kcode k = 9 := hy
            have := kcode_lt k; omega
        · have : kcode k = 9 := hx
          have := kcode_lt k; omega
      · cases x <;> first | (cases hx; done) | simp [Instr.checkKey, und_run hD]
    | bool =>
      rw [hu] at h
      injection h with h
      have hD := und_of hu (by intro h; cases h)
      refine ⟨_, hD, one _ 8 hD rfl (fun _ h => by cases h) h.symm (fun n x y w hx hy => ?_) (fun n b x w hx => ?_)⟩
      · cases x <;> first | (cases hx; done) | skip
        · cases y <;> first | (cases hy; done) | skip
          · simp [Op.equalIn, und_run hD, Same1]
          · rename_i k _; have : kcode k = 8 := hy
            have := kcode_lt k; omega
        · rename_i k _; have : kcode k = 8 := hx
          have := kcode_lt k; omega
      · cases x <;> first | (cases hx; done) | simp [Instr.checkKey, und_run hD]
    | string =>
      rw [hu] at h
      injection h with h
      have hD := und_of hu (by intro h; cases h)
      refine ⟨_, hD, one _ 9 hD rfl (fun _ h => by cases h) h.symm (fun n x y w hx hy => ?_) (fun n b x w hx => ?_)⟩
      · cases x <;> first | (cases hx; done) | skip
        · rename_i k _; have : kcode k = 9 := hx
          have := kcode_lt k; omega
        · cases y <;> first | (cases hy; done) | skip
          · rename_i k _; have : kcode k = 9 := hy
            have := kcode_lt k; omega
          · simp [Op.equalIn, und_run hD, Same1]
      · cases x <;> first | (cases hx; done) | simp [Instr.checkKey, und_run hD]
    | struct fs =>
      rw [hu] at h
      have hD := und_of hu (by intro h; cases h)
      have hst : (match P.underlying t with
        | some (.struct fs) => !P.stoodInHeld t && fs.toList.all fun f => f.name != "_" && stoodOK P d f.type
        | _ => true) = true := hst
      rw [hD] at hst
      simp only [Bool.and_eq_true, List.all_eq_true, Bool.not_eq_true', bne_iff_ne] at hst
      obtain ⟨hs1, hs2⟩ := hst
      have ih : ∀ f ∈ fs.toList, ∀ a, kindsT P d f.type = some a → ∃ D i, P.underlying f.type = some D ∧ P.info? f.type = some i ∧ PlainP P f.type (isAggD D) a d := by
        intro f hf a ha
        obtain ⟨D, hD', pp⟩ := kindsT_ok d f.type a ha (hs2 f hf).2
        cases hi : P.info? f.type with
        | none =>
          exfalso
          have : P.underlying f.type = none := by unfold Program.underlying; simp [hi]
          rw [this] at hD'; cases hD'
        | some i => exact ⟨D, i, hD', rfl, pp⟩
      refine ⟨_, hD, ?_, ?_, .inr rfl⟩
      · intro n hn xs ys w hx hy
        obtain ⟨m, rfl⟩ : ∃ m, n = m + 1 := ⟨n - 1, by omega⟩
        have := (kindsF_ok ih (fun f hf => (hs2 f hf).1) fs.toList 0 ks (fun _ h => h) h m (by omega) [] [] xs ys rfl rfl hx hy).1 w
        simp only [List.nil_append] at this
        show (Op.equalIn (m + 1) t (.agg xs.toArray) (.agg ys.toArray)).run P w = _
        simp only [Op.equalIn, Sem.run_bind, und_run hD, Result.andThen_ok, run_program, hs1, Bool.false_eq_true, if_false]
        rw [← Array.forIn_toList, this]
        cases eqAll xs ys <;> simp [Sem.run_pure]
      · intro n hn b xs w hx
        obtain ⟨m, rfl⟩ : ∃ m, n = m + 1 := ⟨n - 1, by omega⟩
        have := (kindsF_ok ih (fun f hf => (hs2 f hf).1) fs.toList 0 ks (fun _ h => h) h m (by omega) [] [] xs xs rfl rfl hx hx).2 b w
        simp only [List.nil_append] at this
        show (Instr.checkKey b (m + 1) t (.agg xs.toArray)).run P w = _
        simp only [Instr.checkKey, Sem.run_bind, und_run hD, Result.andThen_ok]
        rw [← Array.forIn_toList, this]
        simp [Sem.run_pure]
    | _ => rw [hu] at h; cases h
end
end Go.Ev
end
section
namespace Go.Ev
open Go
section
variable {P : Program} {ρ ρ' : Rho} {j B0 : Nat} {H H' : Array Obj} {w : World} {h h' : Hp} {u : AV} {X : Exts}
def XOK (P : Program) (X : Exts) : Prop := ∀ t, plainT t X = true → stoodOK P 5 t = true
theorem eqAll_eq : ∀ {xs ys : List Value}, xs.length = ys.length → eqAll xs ys = true → xs = ys
  | [], [], _, _ => rfl
  | x :: xs, y :: ys, hl, h => by
    have h : (Same1 x y && eqAll xs ys) = true := h
    rw [Bool.and_eq_true] at h
    rw [same1_eq h.1, eqAll_eq (by simpa using hl) h.2]
  | [], _ :: _, h, _ => by simp at h
  | _ :: _, [], h, _ => by simp at h
structure KeyP (P : Program) (t : TypeId) (D : TypeDesc) (ks : List Nat) : Prop where
  und : P.underlying t = some D
  pl : PlainP P t (isAggD D) ks 5
  now : isAggD D = false → ∀ {x y : Value}, Kinds ks [x] → Kinds ks [y] → Instr.sameNow D x y = some (Same1 x y)
  str : isAggD D = true → ∃ fs, D = .struct fs
  one : isAggD D = false → ks.length = 1
theorem keyT_ok (hX : XOK P X) {t : TypeId} {ks : List Nat} (h : keyT P X t = some ks) : ∃ D, undT P t = D ∧ KeyP P t D ks := by
  unfold keyT at h
  have base : ∀ n, kindsT P (n + 1) t = (match undT P t with
      | .int k => some [kcode k]
      | .bool => some [8]
      | .string => some [9]
      | .struct fs => kindsF P (kindsT P n) fs.toList 0
      | _ => none) := fun _ => rfl
  have mk : ∀ D, undT P t = D → P.underlying t = some D → kindsT P 5 t = some ks → stoodOK P 5 t = true → (isAggD D = false → ∀ {x y : Value}, Kinds ks [x] → Kinds ks [y] → Instr.sameNow D x y = some (Same1 x y)) → (isAggD D = true → ∃ fs, D = .struct fs) → (isAggD D = false → ks.length = 1) → KeyP P t D ks := by
    intro D h1 h2 h3 h4 h5 h6 h9
    obtain ⟨D', h7, h8⟩ := kindsT_ok 5 t ks h3 h4
    rw [h2] at h7; injection h7 with h7; subst h7
    exact ⟨h2, h8, h5, h6, h9⟩
  have b5 := base 4
  cases hu : undT P t with
  | int k =>
    rw [hu] at h b5
    injection h with h
    subst h
    have hD := und_of hu (by intro h; cases h)
    refine ⟨_, rfl, mk _ hu hD b5 (by simp [stoodOK, hD]) (fun _ {x y} hx hy => ?_) (fun h => by cases h) (fun _ => rfl)⟩
    cases hx with | cons kx _ => cases hy with | cons ky _ =>
    cases x <;> first | (cases kx; done) | skip
    · have : kcode k = 8 := kx
      have := kcode_lt k; omega
    · cases y <;> first | (cases ky; done) | skip
      · have : kcode k = 8 := ky
        have := kcode_lt k; omega
      · obtain rfl := kcode_inj kx
        obtain rfl := kcode_inj ky
        simp [Instr.sameNow, Same1]
      · have : kcode k = 9 := ky
        have := kcode_lt k; omega
    · have : kcode k = 9 := kx
      have := kcode_lt k; omega
  | string =>
    rw [hu] at h b5
    injection h with h
    subst h
    have hD := und_of hu (by intro h; cases h)
    refine ⟨_, rfl, mk _ hu hD b5 (by simp [stoodOK, hD]) (fun _ {x y} hx hy => ?_) (fun h => by cases h) (fun _ => rfl)⟩
    cases hx with | cons kx _ => cases hy with | cons ky _ =>
    cases x <;> first | (cases kx; done) | skip
    · rename_i k _; have : kcode k = 9 := kx
      have := kcode_lt k; omega
    · cases y <;> first | (cases ky; done) | skip
      · rename_i k _; have : kcode k = 9 := ky
        have := kcode_lt k; omega
      · simp [Instr.sameNow, Same1]
  | bool =>
    rw [hu] at h b5
    injection h with h
    subst h
    have hD := und_of hu (by intro h; cases h)
    refine ⟨_, rfl, mk _ hu hD b5 (by simp [stoodOK, hD]) (fun _ {x y} hx hy => ?_) (fun h => by cases h) (fun _ => rfl)⟩
    cases hx with | cons kx _ => cases hy with | cons ky _ =>
    cases x <;> first | (cases kx; done) | skip
    · cases y <;> first | (cases ky; done) | skip
      · simp [Instr.sameNow, Same1]
      · rename_i k _; have : kcode k = 8 := ky
        have := kcode_lt k; omega
    · rename_i k _; have : kcode k = 8 := kx
      have := kcode_lt k; omega
  | struct fs =>
    rw [hu] at h
    simp only at h
    cases hp : plainT t X with
    | false => rw [hp] at h; cases h
    | true =>
      rw [hp] at h
      have hD := und_of hu (by intro h; cases h)
      exact ⟨_, rfl, mk _ hu hD h (hX t hp) (fun hg => by cases hg) (fun _ => ⟨fs, rfl⟩) (fun hg => by cases hg)⟩
  | _ => rw [hu] at h; cases h
theorem eqVL_le : ∀ vs vs' : List AV, eqVL vs vs' ≤ 2
  | [], [] => Nat.le_refl _
  | [], _ :: _ => Nat.zero_le _
  | _ :: _, [] => Nat.zero_le _
  | v :: vs, v' :: vs' => by
    have E2 : eqVL (v :: vs) (v' :: vs') = nC (eqW v v') 0 (fun a => nC a (bc (Nat.beq (eqVL vs vs') 0) 0 1) fun _ => eqVL vs vs') := rfl
    rw [E2]
    rcases eqW v v' with _ | _ | q
    · exact Nat.zero_le _
    · show bc (Nat.beq (eqVL vs vs') 0) 0 1 ≤ 2
      cases Nat.beq (eqVL vs vs') 0 <;> decide
    · exact eqVL_le vs vs'
theorem eqAg_ok {t : TypeId} {ks : List Nat} {fs : Array Field} (hX : XOK P X) (hu : undT P t = .struct fs) (hk : keyT P X t = some ks) (neg : Bool) : O2 P ρ j (binOp (if neg then .neq else .eql) t) (eqAg ks neg) := by
  intro x y v u' hx hy hn
  obtain ⟨D, hD, kp⟩ := keyT_ok hX hk
  rw [hu] at hD; subst hD
  cases x with
  | x w0 t0 vs =>
    have E : eqAg ks neg (.x w0 t0 vs) y = bc (Nat.beq w0 0) (AV.cX y top fun w' _ vs' => bc (Nat.beq w' 0) (bc (conf ks vs) (eqAg.eqAg2 neg (eqVL vs vs')) top) top) top := rfl
    rw [E] at hn ⊢
    obtain ⟨h1, hn1⟩ := bc_ne hn
    clear hn
    have hn := hn1
    clear hn1
    rw [h1, bc_t]
    rw [beq_eq, decide_eq_true_eq] at h1
    subst h1
    cases y with
    | x w1 t1 vs' =>
      have E : AV.cX (.x w1 t1 vs') top (fun w' _ vs' => bc (Nat.beq w' 0) (bc (conf ks vs) (eqAg.eqAg2 neg (eqVL vs vs')) top) top) = bc (Nat.beq w1 0) (bc (conf ks vs) (eqAg.eqAg2 neg (eqVL vs vs')) top) top := rfl
      rw [E] at hn ⊢
      obtain ⟨h2, hn2⟩ := bc_ne hn
      obtain ⟨h3, hn3⟩ := bc_ne hn2
      rw [h2, h3, bc_t, bc_t]
      rw [beq_eq, decide_eq_true_eq] at h2
      subst h2
      obtain ⟨a, rfl, ha⟩ := agg_inv hx
      obtain ⟨b, rfl, hb⟩ := agg_inv hy
      have ka := conf_ok ha h3
      have hne : eqVL vs vs' ≠ 0 := fun e => hn3 (by rw [e]; rfl)
      obtain ⟨kb, he⟩ := eqVL_ok ha hb ka hne
      have heq : ∀ w, (Op.equal t (.agg a) (.agg b)).run P w = .ok (eqAll a.toList b.toList) w := by
        intro w
        have := kp.pl.eq Op.maxDepth (by decide) a.toList b.toList w ka kb
        exact this
      have hres : eqAg.eqAg2 neg (eqVL vs vs') = .b (if neg then !decide (eqVL vs vs' = 2) else decide (eqVL vs vs' = 2)) := by
        have E : ∀ q, eqAg.eqAg2 neg q = nC q top fun a => nC a (.b neg) fun _ => .b (notB neg) := fun _ => rfl
        rw [E]
        have : eqVL vs vs' = 1 ∨ eqVL vs vs' = 2 := by
          have h2 := eqVL_le vs vs'
          omega
        rcases this with e | e
        · rw [e]; cases neg <;> rfl
        · rw [e]; cases neg <;> rfl
      rw [hres]
      cases neg with
      | true => exact ⟨.bool (!eqAll a.toList b.toList), fun w => by simp [binOp, heq], by rw [he]; exact .b _⟩
      | false => exact ⟨.bool (eqAll a.toList b.toList), fun w => by simp [binOp, heq], by rw [he]; exact .b _⟩
    | _ => exact absurd rfl hn
  | _ => exact absurd rfl hn
theorem getMap {r : Nat} {en : Array MapEntry} {c : Nat} (h : w.heap[r]? = some (.map en c)) : (getObj r).run P w = .ok (.map en c) w := by
  simp [getObj, Sem.run, h]
theorem keyC_ok {D : TypeDesc} {ks : List Nat} {k : AV} {kv : Value} (hk : VR ρ j k kv) (h : keyC (isAggD D) ks k = true) : ∃ xs, kv = rep (isAggD D) xs ∧ Kinds ks xs ∧ (isAggD D = false → xs = [kv]) := by
  cases hg : isAggD D with
  | true =>
    rw [hg] at h
    cases k with
    | x q t vs =>
      have h : bc (Nat.beq q 0) (conf ks vs) false = true := h
      have h0 : Nat.beq q 0 = true := by
        cases e : Nat.beq q 0 with
        | true => rfl
        | false => rw [e] at h; cases h
      rw [h0, bc_t] at h
      rw [beq_eq, decide_eq_true_eq] at h0
      subst h0
      obtain ⟨a, rfl, ha⟩ := agg_inv hk
      exact ⟨a.toList, rfl, conf_ok ha h, fun h => by cases h⟩
    | _ => cases h
  | false =>
    rw [hg] at h
    have h : conf ks [k] = true := h
    exact ⟨[kv], rfl, conf_ok (.cons hk .nil) h, fun _ => rfl⟩
theorem cmpK_ok {D : TypeDesc} {ks : List Nat} {k a : AV} {xs : List Value} {av : Value} (hk : VR ρ j k (rep (isAggD D) xs)) (ha : VR ρ j a av) (hks : Kinds ks xs) (hc : keyC (isAggD D) ks k = true) (h0 : cmpK (isAggD D) k a ≠ 0) :
    ∃ ys, av = rep (isAggD D) ys ∧ Kinds ks ys ∧ eqAll xs ys = decide (cmpK (isAggD D) k a = 2) := by
  cases hg : isAggD D with
  | true =>
    rw [hg] at h0 hk hc
    cases k with
    | x q t vs =>
      have hc : bc (Nat.beq q 0) (conf ks vs) false = true := hc
      have hq : Nat.beq q 0 = true := by
        cases e : Nat.beq q 0 with
        | true => rfl
        | false => rw [e] at hc; cases hc
      rw [beq_eq, decide_eq_true_eq] at hq
      subst hq
      cases a with
      | x q' t' us =>
        have E : cmpK true (.x 0 t vs) (.x q' t' us) = bc (Nat.beq q' 0) (eqVL vs us) 0 := rfl
        rw [E] at h0 ⊢
        have hq' : Nat.beq q' 0 = true := by
          cases e : Nat.beq q' 0 with
          | true => rfl
          | false => rw [e] at h0; exact absurd rfl h0
        rw [hq', bc_t] at h0
        rw [hq', bc_t]
        rw [beq_eq, decide_eq_true_eq] at hq'
        subst hq'
        obtain ⟨b, rfl, hb⟩ := agg_inv ha
        obtain ⟨x, hx, hv⟩ := agg_inv hk
        have hx : Value.agg xs.toArray = .agg x := hx
        injection hx with hx
        subst hx
        obtain ⟨kb, he⟩ := eqVL_ok hv hb (by simpa using hks) h0
        exact ⟨b.toList, rfl, kb, by simpa using he⟩
      | _ => exact absurd rfl h0
    | _ => cases hc
  | false =>
    rw [hg] at h0 hk hc
    have E : cmpK false k a = eqW k a := rfl
    rw [E] at h0 ⊢
    have hc : conf ks [k] = true := hc
    obtain ⟨x, rfl⟩ : ∃ x, xs = [x] := by
      have l1 := (conf_ok (.cons hk .nil) hc).length
      have l2 := hks.length
      rw [l1] at l2
      cases xs with
      | nil => simp at l2
      | cons x xs => cases xs with
        | nil => exact ⟨x, rfl⟩
        | cons y xs => simp at l2
    have hk : VR ρ j k x := hk
    obtain ⟨he, c, k1, k2⟩ := eqW_ok hk ha h0
    cases hks with
    | cons hc' ht =>
      cases ht
      have := kind1_inj hc' k1
      subst this
      exact ⟨[av], rfl, .cons k2 .nil, by show (Same1 x av && true) = _; rw [Bool.and_true]; exact he⟩
structure FindP (P : Program) (t : TypeId) (D : TypeDesc) (kv : Value) (es : List MapEntry) (s : Nat) (r : Option (Nat × Value)) : Prop where
  ask : ∀ w, (Instr.findAsking t kv es s).run P w = .ok r w
  now : isAggD D = false → Instr.findNow D kv es s = some r
theorem find_step {t : TypeId} {D : TypeDesc} {ks : List Nat} (kp : KeyP P t D ks) {xs ys : List Value} (hx : Kinds ks xs) (hy : Kinds ks ys) (e : MapEntry) (he : e.key = rep (isAggD D) ys) (es : List MapEntry) (s : Nat) :
    (eqAll xs ys = true → FindP P t D (rep (isAggD D) xs) (e :: es) s (some (s, e.val))) ∧ (eqAll xs ys = false → ∀ r, FindP P t D (rep (isAggD D) xs) es (s + 1) r → FindP P t D (rep (isAggD D) xs) (e :: es) s r) := by
  have heq : ∀ w, (Op.equal t (rep (isAggD D) xs) e.key).run P w = .ok (eqAll xs ys) w := fun w => by rw [he]; exact kp.pl.eq Op.maxDepth (by decide) xs ys w hx hy
  have hnow : isAggD D = false → Instr.sameNow D (rep (isAggD D) xs) e.key = some (eqAll xs ys) := by
    intro hg
    have l1 := hx.length
    have l2 := hy.length
    have hk1 := kp.one hg
    obtain ⟨x, rfl⟩ := List.length_eq_one_iff.1 (l1.symm.trans hk1)
    obtain ⟨y, rfl⟩ := List.length_eq_one_iff.1 (l2.symm.trans hk1)
    rw [he, hg]
    have := kp.now hg hx hy
    show Instr.sameNow D x y = some (Same1 x y && true)
    rw [Bool.and_true]; exact this
  constructor
  · intro h
    rw [h] at heq hnow
    exact ⟨fun w => by simp [Instr.findAsking, heq, Sem.run_pure], fun hg => by simp [Instr.findNow, hnow hg]⟩
  · intro h r hr
    rw [h] at heq hnow
    exact ⟨fun w => by simp [Instr.findAsking, heq, hr.ask], fun hg => by simp [Instr.findNow, hnow hg, hr.now hg]⟩
theorem FindP.run {t : TypeId} {D : TypeDesc} {ks : List Nat} {kv : Value} {es : List MapEntry} {r : Option (Nat × Value)} (f : FindP P t D kv es 0 r) (kp : KeyP P t D ks) (w : World) : (Instr.findKey t kv es).run P w = .ok r w := by
  unfold Instr.findKey
  simp only [Sem.run_bind, und_run kp.und, Result.andThen_ok]
  cases hg : isAggD D with
  | false => rw [f.now hg]; rfl
  | true =>
    obtain ⟨fs, rfl⟩ := kp.str hg
    cases es with
    | nil =>
      have := f.ask w
      simp only [Instr.findAsking, Sem.run_pure] at this
      injection this with this
      subst this
      rfl
    | cons e es =>
      have : Instr.findNow (.struct fs) kv (e :: es) 0 = none := by simp [Instr.findNow, Instr.sameNow]
      rw [this]
      exact f.ask w
end
end Go.Ev
end
section
namespace Go.Ev
open Go
section
variable {P : Program} {ρ ρ' : Rho} {j B0 : Nat} {H H' : Array Obj} {w : World} {h h' : Hp} {u : AV} {X : Exts}
theorem pCR {x : AV × AV} {f : AV → AV → Rs} (e : pC x f = .ok u h') : f x.1 x.2 = .ok u h' := by cases x; exact e
theorem cmpK_le (g : Bool) (x y : AV) : cmpK g x y ≤ 2 := by
  cases g with
  | false => exact eqW_le x y
  | true =>
    cases x with
    | x w t vs => cases y with
      | x w' t' vs' =>
        show bc (Nat.beq w' 0) (eqVL vs vs') 0 ≤ 2
        cases Nat.beq w' 0
        · exact Nat.zero_le _
        · exact eqVL_le _ _
      | _ => exact Nat.zero_le _
    | _ => exact Nat.zero_le _
theorem findE_ok {t : TypeId} {D : TypeDesc} {ks : List Nat} (kp : KeyP P t D ks) {k : AV} {xs : List Value} (hk : VR ρ j k (rep (isAggD D) xs)) (hks : Kinds ks xs) (hc : keyC (isAggD D) ks k = true) {c : Nat} {n : Rs} {f : AV → Rs} :
    ∀ (es : List (AV × AV)) (en : List MapEntry) (s : Nat), EsR ρ j es en → findE (isAggD D) k (.bad c) n f es = .ok u h' →
      (FindP P t D (rep (isAggD D) xs) en s none ∧ n = .ok u h') ∨ ∃ i v val, FindP P t D (rep (isAggD D) xs) en s (some (i, val)) ∧ VR ρ j v val ∧ f v = .ok u h'
  | [], [], s, _, e => .inl ⟨⟨fun w => by simp [Instr.findAsking, Sem.run_pure], fun _ => rfl⟩, e⟩
  | [], _ :: _, _, h, _ => h.elim
  | _ :: _, [], _, h, _ => h.elim
  | (a, v) :: es, m :: en, s, ⟨h1, h2, h3⟩, e => by
    have e : findE.findE1 (.bad c) (findE (isAggD D) k (.bad c) n f es) (f v) (cmpK (isAggD D) k a) = .ok u h' := e
    have E : ∀ q, findE.findE1 (.bad c) (findE (isAggD D) k (.bad c) n f es) (f v) q = nC q (.bad c) fun q => nC q (findE (isAggD D) k (.bad c) n f es) fun _ => f v := fun _ => rfl
    rw [E] at e
    have h0 : cmpK (isAggD D) k a ≠ 0 := fun h => by rw [h] at e; cases e
    obtain ⟨ys, hy1, hy2, hy3⟩ := cmpK_ok hk h1 hks hc h0
    obtain ⟨st1, st2⟩ := find_step kp hks hy2 m hy1 en s
    rcases hq : cmpK (isAggD D) k a with _ | _ | q
    · exact absurd hq h0
    · rw [hq] at e hy3
      have e : findE (isAggD D) k (.bad c) n f es = .ok u h' := e
      have hf : eqAll xs ys = false := by rw [hy3]; rfl
      rcases findE_ok kp hk hks hc es en (s + 1) h3 e with ⟨f1, f2⟩ | ⟨i, v', val, f1, f2, f3⟩
      · exact .inl ⟨st2 hf _ f1, f2⟩
      · exact .inr ⟨i, v', val, st2 hf _ f1, f2, f3⟩
    · rw [hq] at e hy3
      have e : f v = .ok u h' := e
      have hq2 : q = 0 := by
        have := cmpK_le (isAggD D) k a
        omega
      subst hq2
      exact .inr ⟨s, v, m.val, st1 (by rw [hy3]; rfl), h2, e⟩
theorem esOf_ok {x : AV} {v : Value} {c : Nat} {f : List (AV × AV) → Rs} (hr : HR P ρ j B0 h w.heap) (hx : VR ρ j x v) (e : esOf h x (.bad c) f = .ok u h') :
    (v = .map none ∧ f [] = .ok u h') ∨ ∃ r en cl es, v = .map (some r) ∧ w.heap[r]? = some (.map en cl) ∧ EsR ρ j es en.toList ∧ f es = .ok u h' := by
  cases x with
  | m o =>
    have e : Ob.cMp (h.ob o) (.bad c) f = .ok u h' := e
    cases hx with
    | m hl =>
      have := hr.obs o
      cases ho : h.ob o with
      | mp es =>
        rw [ho] at e this
        obtain ⟨_, _, _, en, cl, h1, h2⟩ := this _ _ hl
        exact .inr ⟨_, en, cl, es, rfl, h1, h2, e⟩
      | _ => rw [ho] at e; cases e
  | z q =>
    have e : bc (Nat.beq q 4) (f []) (.bad c) = .ok u h' := e
    obtain ⟨h4, e⟩ := bcR e badNe
    rw [beq_eq, decide_eq_true_eq] at h4
    subst h4
    cases hx with
    | mn => exact .inl ⟨rfl, e⟩
  | _ => cases e
theorem lkR_ok {ok b : Bool} {v : AV} {z : Value} (hv : VR ρ j v z) (e : lkR ok b v h = .ok u h') : h' = h ∧ u ≠ top ∧ VR ρ j u (if ok then .tuple #[z, .bool b] else z) := by
  cases ok with
  | true =>
    have e : rsV 21 (bc (isTop v) top (.x 1 0 [v, .b b])) h = .ok u h' := e
    obtain ⟨h1, rfl, rfl⟩ := rsV_ok e
    refine ⟨rfl, h1, ?_⟩
    cases ht : isTop v with
    | true => rw [ht] at h1; exact absurd rfl h1
    | false => rw [bc_f]; exact .tup (by simpa using VRs.cons hv (.cons (.b b) .nil))
  | false =>
    have e : rsV 21 v h = .ok u h' := e
    obtain ⟨h1, rfl, rfl⟩ := rsV_ok e
    exact ⟨rfl, h1, hv⟩
theorem aLkp_ok {t kt et : TypeId} {ks : List Nat} {ok : Bool} {x y : AV} {v kv : Value} (hX : XOK P X) (ht : P.underlying t = some (.map kt et)) (hkt : keyT P X kt = some ks) (hz : hasZ P et = true) (hr : HR P ρ j B0 h w.heap) (hx : VR ρ j x v) (hy : VR ρ j y kv)
    (e : aLkp (isAggD (undT P kt)) ks (zeroV P et) ok x y h = .ok u h') : h' = h ∧ u ≠ top ∧ ∃ z, (Instr.lookup t v kv ok).run P w = .ok z w ∧ VR ρ j u z := by
  obtain ⟨D, hD, kp⟩ := keyT_ok hX hkt
  rw [hD] at e
  obtain ⟨i, z, hi, hiz, hzr, hzv⟩ := hasZ_inv hz
  have hzero : VR ρ j (zeroV P et) z := by rw [hzv]; exact cvt_ok 5 z
  have e : esOf h x (.bad 19) (fun es => bc (keyC (isAggD D) ks y) (findE (isAggD D) y (.bad 20) (lkR ok false (zeroV P et) h) (fun v => lkR ok true v h) es) (.bad 74)) = .ok u h' := e
  have fin : ∀ (es : List (AV × AV)) (en : List MapEntry), EsR ρ j es en → bc (keyC (isAggD D) ks y) (findE (isAggD D) y (.bad 20) (lkR ok false (zeroV P et) h) (fun v => lkR ok true v h) es) (.bad 74) = .ok u h' →
      h' = h ∧ u ≠ top ∧ ∃ r : Option (Nat × Value), (∀ b w, (Instr.checkKey b 10000 kt kv).run P w = .ok () w) ∧ (∀ w, (Instr.findKey kt kv en).run P w = .ok r w) ∧ VR ρ j u (if ok then .tuple #[(r.map (·.2)).getD z, .bool r.isSome] else (r.map (·.2)).getD z) := by
    intro es en hes e
    obtain ⟨hc, e⟩ := bcR e badNe
    obtain ⟨xs, rfl, hks, _⟩ := keyC_ok hy hc
    have hck : ∀ b w, (Instr.checkKey b 10000 kt (rep (isAggD D) xs)).run P w = .ok () w := fun b w => kp.pl.key 10000 (by decide) b xs w hks
    rcases findE_ok kp hy hks hc es en 0 hes e with ⟨f1, f2⟩ | ⟨i, v', val, f1, f2, f3⟩
    · obtain ⟨a1, a2, a3⟩ := lkR_ok hzero f2
      exact ⟨a1, a2, none, hck, f1.run kp, a3⟩
    · obtain ⟨a1, a2, a3⟩ := lkR_ok f2 f3
      exact ⟨a1, a2, some (i, val), hck, f1.run kp, a3⟩
  rcases esOf_ok hr hx e with ⟨rfl, e⟩ | ⟨r, en, cl, es, rfl, h1, h2, e⟩
  · obtain ⟨a1, a2, r, a3, a4, a5⟩ := fin [] [] trivial e
    refine ⟨a1, a2, _, ?_, a5⟩
    simp only [Instr.lookup, Sem.run_bind, und_run ht, Result.andThen_ok, Sem.run_pure, a3, a4]
    cases r with
    | none => simp only [hzr, Sem.run_bind, Result.andThen_ok, Sem.run_pure]; rfl
    | some p => rfl
  · obtain ⟨a1, a2, r, a3, a4, a5⟩ := fin es en.toList h2 e
    refine ⟨a1, a2, _, ?_, a5⟩
    simp only [Instr.lookup, Sem.run_bind, und_run ht, Result.andThen_ok, Sem.run_pure, getMap h1, a3, a4]
    cases r with
    | none => simp only [hzr, Sem.run_bind, Result.andThen_ok, Sem.run_pure]; rfl
    | some p => rfl
end
end Go.Ev
end
section
namespace Go.Ev
open Go
section
variable {P : Program} {ρ ρ' : Rho} {j B0 : Nat} {H H' : Array Obj} {w : World} {h h' : Hp} {u : AV} {X : Exts}
theorem updE_ok {t : TypeId} {D : TypeDesc} {ks : List Nat} (kp : KeyP P t D ks) {k v : AV} {xs : List Value} (hk : VR ρ j k (rep (isAggD D) xs)) (hks : Kinds ks xs) (hc : keyC (isAggD D) ks k = true) {c : Nat} :
    ∀ (es : List (AV × AV)) (en : List MapEntry) (s : Nat) (f : List (AV × AV) → Rs), EsR ρ j es en → updE (isAggD D) k v (.bad c) f es = .ok u h' →
      (FindP P t D (rep (isAggD D) xs) en s none ∧ f (es ++ [(k, v)]) = .ok u h') ∨ ∃ n val m, FindP P t D (rep (isAggD D) xs) en s (some (s + n, val)) ∧ en[n]? = some m ∧ m.key = rep (isAggD D) xs ∧ f (es.set n (k, v)) = .ok u h'
  | [], [], s, f, _, e => .inl ⟨⟨fun w => by simp [Instr.findAsking, Sem.run_pure], fun _ => rfl⟩, e⟩
  | [], _ :: _, _, _, h, _ => h.elim
  | _ :: _, [], _, _, h, _ => h.elim
  | (a, v0) :: es, m :: en, s, f, ⟨h1, h2, h3⟩, e => by
    have e : nC (cmpK (isAggD D) k a) (.bad c) (fun q => nC q (updE (isAggD D) k v (.bad c) (fun l => f ((a, v0) :: l)) es) fun _ => f ((k, v) :: es)) = .ok u h' := e
    have h0 : cmpK (isAggD D) k a ≠ 0 := fun h => by rw [h] at e; cases e
    obtain ⟨ys, hy1, hy2, hy3⟩ := cmpK_ok hk h1 hks hc h0
    obtain ⟨st1, st2⟩ := find_step kp hks hy2 m hy1 en s
    rcases hq : cmpK (isAggD D) k a with _ | _ | q
    · exact absurd hq h0
    · rw [hq] at e hy3
      have e : updE (isAggD D) k v (.bad c) (fun l => f ((a, v0) :: l)) es = .ok u h' := e
      have hf : eqAll xs ys = false := by rw [hy3]; rfl
      rcases updE_ok kp hk hks hc es en (s + 1) _ h3 e with ⟨f1, f2⟩ | ⟨n, val, m', f1, f2, f3, f4⟩
      · exact .inl ⟨st2 hf _ f1, f2⟩
      · refine .inr ⟨n + 1, val, m', ?_, f2, f3, f4⟩
        rw [show s + (n + 1) = s + 1 + n by omega]; exact st2 hf _ f1
    · rw [hq] at e hy3
      have e : f ((k, v) :: es) = .ok u h' := e
      have hq2 : q = 0 := by have := cmpK_le (isAggD D) k a; omega
      subst hq2
      have ht : eqAll xs ys = true := by rw [hy3]; rfl
      have hxy := eqAll_eq (by rw [← hks.length, ← hy2.length]) ht
      exact .inr ⟨0, m.val, m, by rw [Nat.add_zero]; exact st1 ht, rfl, by rw [hy1, hxy], e⟩
theorem EsR.append : ∀ {l : List (AV × AV)} {es : List MapEntry} {a b : AV} {m : MapEntry}, EsR ρ j l es → VR ρ j a m.key → VR ρ j b m.val → EsR ρ j (l ++ [(a, b)]) (es ++ [m])
  | [], [], _, _, _, _, h1, h2 => ⟨h1, h2, trivial⟩
  | (_, _) :: _, _ :: _, _, _, _, ⟨x, y, z⟩, h1, h2 => ⟨x, y, z.append h1 h2⟩
  | [], _ :: _, _, _, _, h, _, _ => h.elim
  | _ :: _, [], _, _, _, h, _, _ => h.elim
theorem EsR.set : ∀ {l : List (AV × AV)} {es : List MapEntry} {a b : AV} {m : MapEntry} (n : Nat), EsR ρ j l es → VR ρ j a m.key → VR ρ j b m.val → EsR ρ j (l.set n (a, b)) (es.set n m)
  | [], [], _, _, _, _, _, _, _ => trivial
  | (_, _) :: _, _ :: _, _, _, _, 0, ⟨_x, _y, z⟩, h1, h2 => ⟨h1, h2, z⟩
  | (_, _) :: _, _ :: _, _, _, _, n + 1, ⟨x, y, z⟩, h1, h2 => ⟨x, y, z.set n h1 h2⟩
  | [], _ :: _, _, _, _, _, h, _, _ => h.elim
  | _ :: _, [], _, _, _, _, h, _, _ => h.elim
theorem HR.map {o : Ps} {r X0 : Nat} {es es' : List (AV × AV)} {en' : Array MapEntry} {cl' : Nat} (hr : HR P ρ j B0 h H) (hl : ρ o 0 = some (r, X0)) (ho : h.ob o = .mp es) (he : EsR ρ j es' en'.toList) :
    HR P ρ j B0 (h.put o (.mp es')) (H.setIfInBounds r (.map en' cl')) ∧ Tn B0 ρ ρ H (H.setIfInBounds r (.map en' cl')) := by
  have hob := hr.obs o
  rw [ho] at hob
  obtain ⟨_, hB0, _, _⟩ := hob _ _ hl
  have hn := Hp.put_nx h o (.mp es')
  have hlt := (hr.fresh _ _ _ hl).2.2
  exact hr.upd (o := o) (ob := .mp es') (h' := h.put o (.mp es')) (ρ' := ρ) (fun q => Hp.ob_put _ _ _ _) (by rw [hn.1]; exact Nat.le_refl _) (by rw [hn.2]; exact Nat.le_refl _) ρ.le_refl (by simp) (fun _ _ _ _ h => h)
    (fun m p e => by
      have := hr.fresh _ m p e
      rw [hn.1, hn.2]
      exact ⟨this.1, this.2.1, by simpa using this.2.2, .inl ⟨m, p.2, e⟩⟩)
    (fun b hb hor => by
      rw [Array.getElem?_setIfInBounds, if_neg]
      intro hbe
      subst hbe
      rcases hor with h | h
      · exact absurd hB0 (Nat.not_le_of_lt h)
      · exact h _ _ hl)
    (fun m p e => by
      obtain ⟨a0, a1, a2, en, c, a3, a4⟩ := hob m p e
      refine ⟨a0, a1, a2, ?_⟩
      subst a0
      by_cases hp : r = p.1
      · exact ⟨en', cl', by rw [Array.getElem?_setIfInBounds, if_pos hp, if_pos (by omega)], he⟩
      · rw [hl] at e; injection e with e; subst e; exact absurd rfl hp) (.inl (by rw [hn.1]; exact hr.lt ho (by intro h; cases h))) (fun t k w ms e => by cases e)
theorem setMap {r : Nat} {en en' : Array MapEntry} {c c' : Nat} (h : w.heap[r]? = some (.map en c)) : (setObj r (.map en' c')).run P w = .ok () { w with heap := w.heap.setIfInBounds r (.map en' c') } := by
  simp [setObj, Sem.run, h]
theorem keyStays {t : TypeId} {D : TypeDesc} {ks : List Nat} (kp : KeyP P t D ks) {xs : List Value} (hks : Kinds ks xs) (w : World) : (Instr.keyThatStays (rep (isAggD D) xs) (rep (isAggD D) xs)).run P w = .ok (rep (isAggD D) xs) w := by
  have one : ∀ (n : Nat) {c : Nat} {x : Value}, Kind1 c x → Instr.sameBits (n + 1) x x = true := by
    intro n c x hx
    cases x <;> first | (cases hx; done) | simp [Instr.sameBits, bytes_eq]
  have hb : Instr.sameBits 10000 (rep (isAggD D) xs) (rep (isAggD D) xs) = true := by
    cases hg : isAggD D with
    | false =>
      have h1 := kp.one hg
      have h2 := hks.length
      obtain ⟨x, rfl⟩ := List.length_eq_one_iff.1 (h2.symm.trans h1)
      cases hks with
      | cons kx _ => exact one 9999 kx
    | true =>
      have all : ∀ {ks : List Nat} {xs : List Value}, Kinds ks xs → ((xs.zip xs).all fun (x, y) => Instr.sameBits 9999 x y) = true := by
        intro ks xs h
        induction h with
        | nil => rfl
        | cons kx _ ih => simp only [List.zip_cons_cons, List.all_cons, ih, Bool.and_true]; exact one 9998 kx
      have := all hks
      show Instr.sameBits 10000 (.agg xs.toArray) (.agg xs.toArray) = true
      simp only [Instr.sameBits, beq_self_eq_true, Bool.true_and]
      exact this
  unfold Instr.keyThatStays
  rw [if_pos hb]; rfl
theorem aUpd_ok {t kt et : TypeId} {ks : List Nat} {x k v : AV} {mv kv vv : Value} (hX : XOK P X) (ht : P.underlying t = some (.map kt et)) (hkt : keyT P X kt = some ks) (hr : HR P ρ j B0 h w.heap) (hx : VR ρ j x mv) (hk : VR ρ j k kv) (hv : VR ρ j v vv)
    (e : aUpd (isAggD (undT P kt)) ks x k v h = .ok u h') : DoesU P j B0 (Instr.mapUpdate t mv kv vv) ρ w h' u := by
  obtain ⟨D, hD, kp⟩ := keyT_ok hX hkt
  rw [hD] at e
  cases x with
  | m o =>
    have e : Ob.cMp (h.ob o) (.bad 23) (fun es => bc (keyC (isAggD D) ks k) (updE (isAggD D) k v (.bad 25) (fun es => .ok und (h.put o (.mp es))) es) (.bad 74)) = Rs.ok u h' := e
    cases hx with
    | m hl =>
      rename_i r
      have hob := hr.obs o
      cases ho : h.ob o with
      | mp es =>
        rw [ho] at e hob
        obtain ⟨_, _, _, en, cl, h1, h2⟩ := hob _ _ hl
        have e : bc (keyC (isAggD D) ks k) (updE (isAggD D) k v (.bad 25) (fun es => .ok und (h.put o (.mp es))) es) (.bad 74) = Rs.ok u h' := e
        obtain ⟨hc, e⟩ := bcR e badNe
        obtain ⟨xs, rfl, hks, _⟩ := keyC_ok hk hc
        have hck : ∀ b w, (Instr.checkKey b 10000 kt (rep (isAggD D) xs)).run P w = .ok () w := fun b w => kp.pl.key 10000 (by decide) b xs w hks
        rcases updE_ok kp hk hks hc es en.toList 0 _ h2 e with ⟨f1, f2⟩ | ⟨n, val, m, f1, f2, f3, f4⟩
        · injection f2 with g1 g2
          subst g1; subst g2
          have hm := hr.map (en' := en.push { key := rep (isAggD D) xs, val := vv, born := cl }) (cl' := cl + 1) hl ho (by rw [Array.toList_push]; exact h2.append hk hv)
          refine ⟨_, ρ, ?_, DoesP.mem hm.2 hm.1 .und (by intro h; cases h)⟩
          simp only [Instr.mapUpdate, Sem.run_bind, und_run ht, Result.andThen_ok, getMap h1, hck, f1.run kp, setMap h1]
        · injection f4 with g1 g2
          subst g1; subst g2
          rw [Nat.zero_add] at f1
          have hm := hr.map (en' := en.modify n fun e => { e with key := rep (isAggD D) xs, val := vv }) (cl' := cl) hl ho (by
            have : (en.modify n fun e => { e with key := rep (isAggD D) xs, val := vv }).toList = en.toList.set n { m with key := rep (isAggD D) xs, val := vv } := by
              apply List.ext_getElem?
              intro q
              rw [Array.getElem?_toList, Array.getElem?_modify, List.getElem?_set]
              rw [Array.getElem?_toList] at f2
              by_cases hq : n = q
              · subst hq
                obtain ⟨hlt, hget⟩ := Array.getElem?_eq_some_iff.1 f2
                simp [hlt, hget]
              · simp [hq]
            rw [this]; exact h2.set n hk hv)
          refine ⟨_, ρ, ?_, DoesP.mem hm.2 hm.1 .und (by intro h; cases h)⟩
          have hold : ((en[n]?).map (·.key)).getD (rep (isAggD D) xs) = rep (isAggD D) xs := by
            rw [← Array.getElem?_toList, f2]; exact f3
          simp only [Instr.mapUpdate, Sem.run_bind, und_run ht, Result.andThen_ok, getMap h1, hck, f1.run kp, hold, keyStays kp hks, setMap h1]
      | _ => rw [ho] at e; cases e
  | _ => cases e
theorem HR.realM {o : Ps} {es : List (AV × AV)} {en : Array MapEntry} {cl : Nat} (hr : HR P ρ j B0 h H) (hob : h.ob o = .mp es) (hn : ∀ m, ρ o m = none) (hlt : o.num < h.nx.num) (he : EsR ρ j es en.toList) :
    HR P (ρ.add o 0 H.size 0 0 0) j B0 h (H.push (.map en cl)) ∧ TnW B0 ρ (ρ.add o 0 H.size 0 0 0) H (H.push (.map en cl)) := by
  have le : ρ.le (ρ.add o 0 H.size 0 0 0) := Rho.add_le (hn 0) (fun m p e => by rw [hn m] at e; cases e) (fun q l Y e => by have := (hr.fresh q l _ e).2.2; simp at this)
  have one : ∀ m p, ρ.add o 0 H.size 0 0 0 o m = some p → m = 0 ∧ p = (H.size, 0) := by
    intro m p e
    rcases Rho.add_inv e with ⟨_, h2, h3⟩ | e
    · exact ⟨h2, h3⟩
    · rw [hn m] at e; cases e
  exact hr.updW (o := o) (ob := h.ob o) (h' := h) (fun q => by by_cases e : o = q <;> simp [e]) (Nat.le_refl _) (Nat.le_refl _) le (by simp)
    (fun q hq m p e => by
      rcases Rho.add_inv e with ⟨h1, _, _⟩ | e
      · exact absurd h1 hq
      · exact e)
    (fun m p e => by
      obtain ⟨rfl, rfl⟩ := one m p e
      exact ⟨hlt, hr.md, by simp, .inr (Nat.le_refl _)⟩)
    (fun b hb _ => push_get hb)
    (by
      rw [hob]
      intro m p e
      obtain ⟨rfl, rfl⟩ := one m p e
      exact ⟨rfl, hr.base, rfl, en, cl, by rw [Array.getElem?_push, if_pos rfl], he.mono le⟩)
    (.inl hlt) (fun t k w ms e => by rw [hob] at e; cases e)
theorem aMap_virt (e : aMap h = .ok u h') (hr : HR P ρ j B0 h H) : HR P ρ j B0 h' H ∧ h'.ob h.nx = .mp [] ∧ h.nx.num < h'.nx.num ∧ u = .m h.nx := by
  obtain ⟨T, q, d⟩ := h
  have e : Rs.ok (.m q) (.mk (Tr.set .no q (.mp []) T) q.succ d) = .ok u h' := e
  injection e with e1 e2
  subst e1; subst e2
  refine ⟨hr.virt (fun ρ hn m p e => by rw [hn m] at e; cases e) (fun t k w ms e => by cases e), ?_, ?_, rfl⟩
  · show Tr.get .no q (Tr.set .no q _ T) = _
    rw [Tr.get_set, if_pos rfl]
  · show q.num < q.succ.num
    rw [Ps.succ_num]; omega
theorem mapReal {t : TypeId} {o : Ps} (hr : HR P ρ j B0 h w.heap) (hob : h.ob o = .mp []) (hn : ∀ m, ρ o m = none) (hlt : o.num < h.nx.num) : ∃ x w' ρ', (Instr.makeMap t none).run P w = .ok x w' ∧ RealP P j B0 ρ w h (.m o) x w' ρ' o := by
  have := hr.realM (en := #[]) (cl := 0) hob hn hlt trivial
  exact ⟨.map (some w.heap.size), { w with heap := w.heap.push (.map #[] 0) }, _, rfl, rfl, rfl, rfl, this.2, this.1, .m (Rho.add_at _ _ _ _ _ _ _), (by intro h; cases h), rfl, fun q m p e hq => by
    rcases Rho.add_inv e with ⟨e1, _, _⟩ | e
    · exact absurd e1 hq
    · exact e⟩
theorem aMap_ok {t : TypeId} (hr : HR P ρ j B0 h w.heap) (e : aMap h = .ok u h') : Does P j B0 (Instr.makeMap t none) ρ w h' u := by
  obtain ⟨h1, h2, h3, rfl⟩ := aMap_virt e hr
  obtain ⟨x, w', ρ', hrun, r⟩ := mapReal (t := t) h1 h2 (hr.no (Nat.le_refl _)) h3
  exact ⟨x, w', ρ', hrun, r.does hr.nxl⟩
theorem EsR.length : ∀ {l : List (AV × AV)} {es : List MapEntry}, EsR ρ j l es → l.length = es.length
  | [], [], _ => rfl
  | (_, _) :: _, _ :: _, ⟨_, _, z⟩ => by simp [z.length]
  | [], _ :: _, h => h.elim
  | _ :: _, [], h => h.elim
theorem aLen_ok {t ty kt et : TypeId} {x : AV} {v : Value} (ht : P.underlying t = some (.map kt et)) (hr : HR P ρ j B0 h w.heap) (hx : VR ρ j x v) (e : aLen x h = .ok u h') : h' = h ∧ u ≠ top ∧ ∃ z, (Builtin.len_ #[t] ty #[v]).run P w = .ok z w ∧ VR ρ j u z := by
  have e : esOf h x (.bad 29) (fun es => rsV 29 (lenC (lenE es)) h) = .ok u h' := e
  rcases esOf_ok hr hx e with ⟨rfl, e⟩ | ⟨r, en, cl, es, rfl, h1, h2, e⟩
  · obtain ⟨hn, rfl, rfl⟩ := rsV_ok e
    exact ⟨rfl, hn, goInt 0, by simp [Builtin.len_, und_run ht], lenC_ok hn⟩
  · obtain ⟨hn, rfl, rfl⟩ := rsV_ok e
    refine ⟨rfl, hn, goInt (en.size : Nat), by simp [Builtin.len_, und_run ht, getMap h1], ?_⟩
    have := lenC_ok (ρ := ρ) (j := j) hn
    rw [lenE_eq, h2.length] at this ⊢
    simpa using this
end
end Go.Ev
end
section
namespace Go.Ev
open Go
section
variable {P : Program} {ρ ρ' : Rho} {j B0 : Nat} {w : World} {X : Exts}
theorem putA_ok : ∀ (vs : List AV) (off : Nat) (z : List AV), off + vs.length ≤ z.length → (putA vs off z).length = z.length ∧ ∀ q, (putA vs off z)[q]? = if off ≤ q ∧ q < off + vs.length then vs[q - off]? else z[q]?
  | [], off, z, _ => ⟨rfl, fun q => by rw [if_neg (by simp)]; rfl⟩
  | v :: vs, off, z, h => by
    have E : putA (v :: vs) off z = putA vs (off + 1) (setA off v z) := rfl
    rw [List.length_cons] at h
    rw [E, setA_eq]
    obtain ⟨h1, h2⟩ := putA_ok vs (off + 1) (z.set off v) (by simp; omega)
    refine ⟨by rw [h1]; simp, fun q => ?_⟩
    rw [h2, List.length_cons, List.getElem?_set]
    by_cases c : off + 1 ≤ q ∧ q < off + 1 + vs.length
    · rw [if_pos c, if_pos (by omega), show q - off = (q - (off + 1)) + 1 by omega]; rfl
    · rw [if_neg c]
      by_cases c2 : off = q
      · subst c2; rw [if_pos rfl, if_pos (by omega), if_pos (by omega)]; simp
      · rw [if_neg c2, if_neg (by omega)]
theorem put_vrs {z vs : List AV} {a cs : Array Value} {off : Nat} (hz : VRs ρ j z a.toList) (hv : VRs ρ j vs cs.toList) (hle : off + vs.length ≤ z.length) : VRs ρ j (putA vs off z) (cs.zipIdx.foldl (fun cs (c : Value × Nat) => cs.setIfInBounds (off + c.2) c.1) a).toList ∧ off + cs.size ≤ a.size := by
  have l1 : z.length = a.size := by simpa using hz.length
  have l2 : vs.length = cs.size := by simpa using hv.length
  obtain ⟨p1, p2⟩ := putA_ok vs off z hle
  obtain ⟨b1, b2⟩ := blit off cs a (by omega)
  refine ⟨VRs.of_get (by rw [p1, l1, Array.length_toList, b1]) fun q x y h1 h2 => ?_, by omega⟩
  rw [p2] at h1
  rw [Array.getElem?_toList, b2] at h2
  by_cases c : off ≤ q ∧ q < off + vs.length
  · rw [if_pos c] at h1
    rw [if_pos (by omega)] at h2
    obtain ⟨y', hy, hr⟩ := hv.get _ _ h1
    rw [Array.getElem?_toList, h2] at hy; injection hy with hy; subst hy; exact hr
  · rw [if_neg c] at h1
    rw [if_neg (by omega)] at h2
    obtain ⟨y', hy, hr⟩ := hz.get _ _ h1
    rw [Array.getElem?_toList, h2] at hy; injection hy with hy; subst hy; exact hr
theorem lCV {l : List AV} {f : AV → List AV → AV} (hn : lC l top f ≠ top) : ∃ a r, l = a :: r ∧ f a r ≠ top ∧ lC l top f = f a r := by
  cases l with
  | nil => exact absurd rfl hn
  | cons a r => exact ⟨a, r, rfl, hn, rfl⟩
theorem bldL_ok {place : Nat → Option (Nat × Nat)} {n : Nat} : ∀ (pl : List (Nat × Nat)) (is : List Nat) (z vs : List AV) (xs : List Value) (a : Array Value), z.length = n → plcOK n pl = true → pl.length = is.length → (∀ (k i : Nat) (q : Nat × Nat), is[k]? = some i → pl[k]? = some q → q.1 + q.2 ≤ n → place i = some q) →
    is.length = xs.length → VRs ρ j z a.toList → VRs ρ j vs xs → bld.bldL pl z vs ≠ top → ∃ cells, Instr.fill place a (is.zip xs) = some cells ∧ VR ρ j (bld.bldL pl z vs) (.agg cells)
  | [], is, z, vs, xs, a, hz, _, hl, _, _, hza, _, hn => by
    have hi : is = [] := List.length_eq_zero_iff.1 hl.symm
    subst hi
    have E : bld.bldL [] z vs = agg z := rfl
    rw [E] at hn ⊢
    refine ⟨a, rfl, ?_⟩
    have := agg_cells hza hn
    simpa using this
  | (off, s) :: pl, [], _, _, _, _, _, _, hl, _, _, _, _, _ => by simp at hl
  | (off, s) :: pl, i :: is, z, vs, xs, a, hz, hpl, hl, hpc, hlx, hza, hvs, hn => by
    obtain ⟨hp1, hp2⟩ := andOf hpl
    rw [ble_eq, decide_eq_true_eq] at hp1
    have hp1 : off + s ≤ n := hp1
    have E : bld.bldL ((off, s) :: pl) z vs = lC vs top fun v vs => bc (andB (Nat.beq (lenA (cellsA v)) s) (oneL (cellsA v))) (bld.bldL pl (putA (cellsA v) off z) vs) top := rfl
    rw [E] at hn ⊢
    obtain ⟨v, r, rfl, hn1, e1⟩ := lCV hn
    rw [e1]
    cases hvs with
    | @cons _ x _ xs' hv hr =>
      obtain ⟨hc, hn2⟩ := bc_ne hn1
      rw [hc, bc_t]
      obtain ⟨c1, c2⟩ := andOf hc
      rw [beq_eq, decide_eq_true_eq, lenA_eq] at c1
      have hcs := cells_ok hv c2
      obtain ⟨q1, q2⟩ := put_vrs (off := off) hza hcs (by rw [c1, hz]; exact hp1)
      have hxs : x.cells.size = s := by have := hcs.length; rw [c1] at this; simpa using this.symm
      obtain ⟨cells, g1, g2⟩ := bldL_ok pl is (putA (cellsA v) off z) r xs' _ (by rw [(putA_ok _ _ _ (by rw [c1, hz]; exact hp1)).1, hz]) hp2 (by simpa using hl) (fun k i' q h1 h2 h3 => hpc (k + 1) i' q h1 h2 h3) (by simpa using hlx) q1 hr hn2
      refine ⟨cells, ?_, g2⟩
      have hpi := hpc 0 i (off, s) rfl rfl hp1
      simp only [List.zip_cons_cons, Instr.fill, hpi]
      rw [if_neg (by simp [hxs]; rw [hxs] at q2; exact q2)]
      exact g1
theorem infsB_mem : ∀ {l : List Field}, infsB P l = true → ∀ f ∈ l, ∃ i, P.info? f.type = some i
  | [], _, f, hf => by cases hf
  | g :: l, h, f, hf => by
    have h : bc (infB P g.type) (infsB P l) false = true := h
    cases e : infB P g.type with
    | false => rw [e] at h; cases h
    | true =>
      rw [e] at h
      rcases List.mem_cons.1 hf with rfl | hf
      · unfold infB at e
        cases hi : P.info? f.type with
        | none => rw [hi] at e; cases e
        | some i => exact ⟨i, rfl⟩
      · exact infsB_mem h f hf
theorem bld_ok {t : TypeId} {ps : List (Nat × Operand)} {vs : List AV} {xs : List Value} {q : Nat} (hz : hasZ P t = true) (hb : bldOK P t (idx1 ps) = true) (hpl : plcOK (lenA (zeroCs P t)) (places P t ps) = true) (hl : ps.length = xs.length) (hv : VRs ρ j vs xs)
    (hn : bld (zeroCs P t) (places P t ps) (.x 1 q vs) ≠ top) : Good P (Instr.build t ((idx1 ps).zip xs).toArray) ρ j (bld (zeroCs P t) (places P t ps) (.x 1 q vs)) := by
  obtain ⟨i, z, hi, hiz, hzr, hzv⟩ := hasZ_inv hz
  have hzc := zeroCs_ok (ρ := ρ) (j := j) hzv
  have E : bld (zeroCs P t) (places P t ps) (.x 1 q vs) = bld.bldL (places P t ps) (zeroCs P t) vs := rfl
  rw [E] at hn ⊢
  rw [lenA_eq] at hpl
  have idx_len : ∀ ps : List (Nat × Operand), (idx1 ps).length = ps.length := by
    intro ps; induction ps with
    | nil => rfl
    | cons p ps ih => obtain ⟨a, b⟩ := p; show (idx1 ps).length + 1 = _; rw [ih]; rfl
  have plc_len : ∀ ps : List (Nat × Operand), (places P t ps).length = ps.length := by
    intro ps; induction ps with
    | nil => rfl
    | cons p ps ih => obtain ⟨a, b⟩ := p; show (places P t ps).length + 1 = _; rw [ih]; rfl
  unfold bldOK at hb
  have key : ∀ (place : Nat → Option (Nat × Nat)), (∀ (k i : Nat) (q : Nat × Nat), (idx1 ps)[k]? = some i → (places P t ps)[k]? = some q → q.1 + q.2 ≤ (zeroCs P t).length → place i = some q) → ∃ cells, Instr.fill place z.cells ((idx1 ps).zip xs) = some cells ∧ VR ρ j (bld.bldL (places P t ps) (zeroCs P t) vs) (.agg cells) :=
    fun place hp => bldL_ok (places P t ps) (idx1 ps) (zeroCs P t) vs xs z.cells rfl hpl (by rw [idx_len, plc_len]) hp (by rw [idx_len, hl]) hzc hv hn
  have plc_get : ∀ (ps : List (Nat × Operand)) (k i : Nat) (q : Nat × Nat), (idx1 ps)[k]? = some i → (places P t ps)[k]? = some q → q = (match undT P t with
    | .struct fs => (match fs[i]? with | some fd => (fd.offset, szOf P fd.type) | none => (0, 99999999))
    | .array _ e => (Nat.mul i (szOf P e), szOf P e)
    | _ => (0, 99999999)) := by
    intro ps
    induction ps with
    | nil => intro k i q h1 _; cases h1
    | cons p ps ih =>
      obtain ⟨a, b⟩ := p
      intro k i q h1 h2
      cases k with
      | zero => injection h1 with h1; injection h2 with h2; subst h1; subst h2; rfl
      | succ k => exact ih k i q h1 h2
  cases hu : undT P t with
  | struct fs =>
    rw [hu] at hb
    have hD := und_of hu (by intro h; cases h)
    obtain ⟨hb1, hb2⟩ := andOf hb
    have hinf := infsB_mem hb1
    have hlt := allLt_inv hb2
    obtain ⟨pls, hpls⟩ : ∃ pls, fs.toList.mapM (fun f => (P.info? f.type).map fun i => (f.offset, i.size)) = some pls ∧ pls = fs.toList.map fun f => (f.offset, szOf P f.type) := by
      have : ∀ l : List Field, (∀ f ∈ l, ∃ i, P.info? f.type = some i) → l.mapM (fun f => (P.info? f.type).map fun i => (f.offset, i.size)) = some (l.map fun f => (f.offset, szOf P f.type)) := by
        intro l
        induction l with
        | nil => intro _; rfl
        | cons f l ih =>
          intro h
          obtain ⟨i, hi⟩ := h f (by simp)
          rw [List.mapM_cons, ih (fun g hg => h g (by simp [hg]))]
          simp [hi, szOf_eq hi]
      exact ⟨_, this _ hinf, rfl⟩
    obtain ⟨cells, g1, g2⟩ := key (pls.toArray[·]?) (fun k i' q' h1 h2 h3 => by
      have := plc_get ps k i' q' h1 h2
      rw [hu] at this
      simp only at this
      cases hf : fs[i']? with
      | none =>
        rw [hf] at this
        exfalso
        have := hlt i' (List.mem_of_getElem? h1)
        rw [Array.getElem?_eq_none_iff] at hf; omega
      | some fd =>
        rw [hf] at this
        rw [hpls.2]
        simp [hf, this])
    refine ⟨.agg cells, fun w => run_build w t _ cells ?_, g2⟩
    unfold Program.built
    simp only [hi, hD, hiz, hpls.1]
    exact g1
  | array m e =>
    rw [hu] at hb
    have hD := und_of hu (by intro h; cases h)
    have hb : infB P e = true := hb
    obtain ⟨ie, hie⟩ : ∃ ie, P.info? e = some ie := by
      unfold infB at hb
      cases h : P.info? e with
      | none => rw [h] at hb; cases hb
      | some i => exact ⟨i, rfl⟩
    obtain ⟨cells, g1, g2⟩ := key (fun i => some (i * ie.size, ie.size)) (fun k i' q' h1 h2 h3 => by
      have := plc_get ps k i' q' h1 h2
      rw [hu] at this
      simp only at this
      rw [this, szOf_eq hie]; rfl)
    refine ⟨.agg cells, fun w => run_build w t _ cells ?_, g2⟩
    unfold Program.built
    simp only [hi, hD, hiz, hie]
    exact g1
  | _ => rw [hu] at hb; cases hb
theorem ixByteN_ok {l c b : Nat} : ∀ n, n ≤ l → l ≤ 1048576 → ixByteN l c b n = (match (List.range n).find? (fun q => byteAt l c (l - n + q) == b) with | some q => AV.i 3 (l - n + q) | none => .i 3 18446744073709551615)
  | 0, _, _ => rfl
  | n + 1, h, hl => by
    have E : ixByteN l c b (n + 1) = bc (Nat.beq (Nat.land (Nat.shiftRight c (bit8 n)) 255) b) (mkI 3 (l - (n + 1))) (ixByteN l c b n) := rfl
    have E2 : byteAt l c (l - (n + 1)) = Nat.land (Nat.shiftRight c (bit8 (l - (l - (n + 1) + 1)))) 255 := rfl
    rw [show l - (l - (n + 1) + 1) = n by omega] at E2
    rw [E, ← E2, ixByteN_ok n (by omega) hl, List.range_succ_eq_map, List.find?_cons]
    rw [beq_eq]
    by_cases hb : byteAt l c (l - (n + 1)) = b
    · simp [hb, bc] <;> rfl
    · have hb' : (byteAt l c (l - (n + 1) + 0) == b) = false := by simpa using hb
      simp only [hb, decide_false, bc_f, hb', List.find?_map]
      have : ((fun q => byteAt l c (l - (n + 1) + q) == b) ∘ Nat.succ) = fun q => byteAt l c (l - n + q) == b := by
        funext q
        show (byteAt l c (l - (n + 1) + (q + 1)) == b) = _
        rw [show l - (n + 1) + (q + 1) = l - n + q by omega]
      rw [this]
      cases (List.range n).find? (fun q => byteAt l c (l - n + q) == b) with
      | none => rfl
      | some q => simp only [Option.map_some]; congr 1; omega
theorem ixByte_ok : O2 P ρ j (fun a b => Extern.BytealgIndexByte.indexByte #[a, b]) ixByte := by
  intro x y v u hx hy hn
  cases x with
  | s l c =>
    cases y with
    | i k u0 =>
      have E : ixByte (.s l c) (.i k u0) = bc (Nat.beq k 4) (bc (Nat.ble l 1048576) (ixByteN l c u0 l) top) top := rfl
      rw [E] at hn ⊢
      obtain ⟨h1, hn1⟩ := bc_ne hn
      obtain ⟨h2, hn2⟩ := bc_ne hn1
      rw [h1, h2, bc_t, bc_t]
      rw [beq_eq, decide_eq_true_eq] at h1
      rw [ble_eq, decide_eq_true_eq] at h2
      obtain ⟨bs, rfl, rfl, rfl⟩ := hx.str
      obtain ⟨K, z, hz, h3, rfl, rfl⟩ := hy.int
      have hK : K = .u8 := kcode_inj (by rw [← h3, h1]; rfl)
      subst hK
      have hz' : 0 ≤ z ∧ z ≤ 255 := by
        obtain ⟨a, b⟩ := hz
        simp [IntKind.min, IntKind.max, IntKind.signed, IntKind.bits] at a b
        omega
      obtain ⟨n, rfl⟩ := Int.eq_ofNat_of_zero_le hz'.1
      have hu : uOf .u8 (n : Int) = n := by simp [uOf, IntKind.bits]; omega
      rw [hu, ixByteN_ok _ (Nat.le_refl _) h2, Nat.sub_self]
      have hfind : (List.range bs.size).find? (fun i => bs[i]! == (n : Int).toNat.toUInt8) = (List.range bs.data.toList.length).find? (fun q => byteAt bs.data.toList.length (strC bs.data.toList 0) (0 + q) == n) := by
        show (List.range bs.data.toList.length).find? _ = _
        have : ∀ l : List Nat, (∀ q ∈ l, q < bs.data.toList.length) → l.find? (fun i => bs[i]! == (n : Int).toNat.toUInt8) = l.find? (fun q => byteAt bs.data.toList.length (strC bs.data.toList 0) (0 + q) == n) := by
          intro l
          induction l with
          | nil => intro _; rfl
          | cons q l ih =>
            intro hq
            have hlt := hq q (by simp)
            rw [List.find?_cons, List.find?_cons, ih (fun r hr => hq r (by simp [hr]))]
            have hb := byteAt_eq bs.data.toList q hlt
            have hlt' : q < bs.data.size := by simpa using hlt
            have hg : bs[q]! = bs.data[q] := by
              have : q < bs.size := hlt'
              rw [getElem!_pos bs q this]; rfl
            have : (bs[q]! == (n : Int).toNat.toUInt8) = (byteAt bs.data.toList.length (strC bs.data.toList 0) (0 + q) == n) := by
              rw [Nat.zero_add, hb, hg, Bool.eq_iff_iff]
              simp only [beq_iff_eq, Array.getElem_toList, Int.toNat_natCast]
              constructor
              · intro e; rw [e]; simp; omega
              · intro e; rw [← e]; simp
            rw [this]
        exact this _ (fun q hq => List.mem_range.1 hq)
      have hrun : ∀ w : World, (Extern.BytealgIndexByte.indexByte #[.string bs, .int .u8 (n : Int)]).run P w = .ok (match (List.range bs.size).find? (fun i => bs[i]! == (n : Int).toNat.toUInt8) with | some i => goInt i | none => goInt (-1)) w := by
        intro w
        have e0 : Extern.BytealgIndexByte.indexByte #[.string bs, .int .u8 (n : Int)] = (match (List.range bs.size).find? (fun i => bs[i]! == (n : Int).toNat.toUInt8) with | some i => Sem.pure (goInt i) | none => Sem.pure (goInt (-1))) := rfl
        rw [e0]
        cases (List.range bs.size).find? (fun i => bs[i]! == (n : Int).toNat.toUInt8) <;> rfl
      refine ⟨_, hrun, ?_⟩
      rw [hfind]
      cases hq : (List.range bs.data.toList.length).find? (fun q => byteAt bs.data.toList.length (strC bs.data.toList 0) (0 + q) == n) with
      | none =>
        refine .mkI ?_ rfl ?_
        · simp [inR, IntKind.min, IntKind.max, IntKind.signed, IntKind.bits]
        · rfl
      | some q =>
        have := List.mem_range.1 (List.mem_of_find?_eq_some hq)
        show VR ρ j (.i 3 (0 + q)) (goInt q)
        rw [Nat.zero_add]
        exact goInt_vr (by omega)
    | _ => exact absurd rfl hn
  | _ => exact absurd rfl hn
theorem ixb_ok : O2 P ρ j (fun a b => Extern.BytealgIndexByte.indexByte #[a, b]) ixb := by
  intro x y v u hx hy hn
  have E : ixb x y = bc (isL x) (lz2 ixByte x y) (bc (isL y) (lz2 ixByte x y) (ixByte x y)) := rfl
  rw [E] at hn ⊢
  cases h1 : isL x with
  | true => rw [h1, bc_t] at hn; rw [bc_t]; exact lz2_ok ixByte_ok x y v u hx hy hn
  | false =>
    rw [h1, bc_f] at hn
    rw [bc_f]
    cases h2 : isL y with
    | true => rw [h2, bc_t] at hn; rw [bc_t]; exact lz2_ok ixByte_ok x y v u hx hy hn
    | false => rw [h2, bc_f] at hn; rw [bc_f]; exact ixByte_ok x y v u hx hy hn
end
end Go.Ev
end
section
namespace Go.Ev
open Go
section
variable {P : Program} {ρ : Rho} {j : Nat} {X : Exts} {env : Env} {loc : List AV}
theorem onB_pure {b : Bool} {x : K} {w : Nat} {e : E} (h : onB b x (badK w) = .pure e) : b = true ∧ x = .pure e := by
  cases b with
  | true => exact ⟨rfl, h⟩
  | false => cases h
theorem onB_act {b : Bool} {x : K} {w : Nat} {q : Env → List AV → Hp → Rs} (h : onB b x (badK w) = .act (.m q)) : b = true ∧ x = .act (.m q) := by
  cases b with
  | true => exact ⟨rfl, h⟩
  | false => cases h
theorem info_of {t : TypeId} {D : TypeDesc} (h : P.underlying t = some D) : ∃ i, P.info? t = some i := by
  cases hi : P.info? t with
  | some i => exact ⟨i, rfl⟩
  | none =>
    exfalso
    have : P.underlying t = none := by unfold Program.underlying; simp [hi]
    rw [this] at h; cases h
theorem infB_inv {t : TypeId} (h : infB P t = true) : ∃ i, P.info? t = some i := by
  unfold infB at h
  cases hi : P.info? t with
  | none => rw [hi] at h; cases h
  | some i => exact ⟨i, rfl⟩
theorem vldB_inv {t : TypeId} (h : vldB P t = true) : P.underlying t = some (undT P t) := by
  unfold vldB at h
  exact und_of rfl (by intro e; rw [e] at h; cases h)
theorem cncB_inv {t : TypeId} (h : cncB P t = true) : P.underlying t = some (undT P t) ∧ ∀ ms, undT P t ≠ .interface ms := by
  unfold cncB at h
  exact ⟨und_of rfl (by intro e; rw [e] at h; cases h), fun ms e => by rw [e] at h; cases h⟩
theorem equal_stuck {t : TypeId} {a b : Value} {D : TypeDesc} {w : World} (hD : P.underlying t = some D) (h1 : ∀ ms, D ≠ .interface ms) (h2 : isAggD D = false) (hab : (a = .nilIface ∧ b = .nilIface) ∨ (∃ u v, a = .agg u ∧ b = .agg v)) (z : Bool) (w' : World) : (Op.equal t a b).run P w ≠ .ok z w' := by
  have e : Op.equal t a b = Op.equalIn (9999 + 1) t a b := rfl
  rw [e]
  generalize 9999 = n
  rw [Op.equalIn]
  simp only [Sem.run_bind, und_run hD, Result.andThen_ok]
  rcases hab with ⟨rfl, rfl⟩ | ⟨u, v, rfl, rfl⟩
  · cases D <;> first | exact absurd rfl (h1 _) | (intro h; cases h)
  · cases D <;> first | (cases h2; done) | (intro h; cases h)
theorem eqGuard_plain {op : BinOp} {t : TypeId} {x y : Operand} {a b z : Value} {D : TypeDesc} {w : World} (hD : P.underlying t = some D) (h1 : ∀ ms, D ≠ .interface ms) (h2 : isAggD D = false) (hr : (binOp op t a b).run P w = .ok z w) : (eqGuard op t x y a b).run P w = .ok () w := by
  by_cases ho : op = .eql ∨ op = .neq
  · have hbo : ¬ ((a = .nilIface ∧ b = .nilIface) ∨ (∃ u v, a = .agg u ∧ b = .agg v)) := by
      intro hab
      have hq := fun z w' => equal_stuck (w := w) hD h1 h2 hab z w'
      have hb : binOp op t a b = (do let q ← Op.equal t a b; pure (.bool (if op = .eql then q else !q))) := by
        rcases ho with rfl | rfl <;> rcases hab with ⟨rfl, rfl⟩ | ⟨u, v, rfl, rfl⟩ <;> simp [binOp]
      rw [hb] at hr
      simp only [Sem.run_bind] at hr
      cases hq' : (Op.equal t a b).run P w with
      | halt e w' => rw [hq'] at hr; cases hr
      | ok q w' => exact hq q w' hq'
    rcases ho with rfl | rfl <;> cases a <;> cases b <;> first | rfl | exact absurd (.inl ⟨rfl, rfl⟩) hbo | exact absurd (.inr ⟨_, _, rfl, rfl⟩) hbo
  · cases op <;> first | (exact absurd (Or.inl rfl) ho) | (exact absurd (Or.inr rfl) ho) | rfl
theorem guard_good {op : BinOp} {t : TypeId} {x y : Operand} {a b : Value} {D : TypeDesc} {r : AV} (hD : P.underlying t = some D) (h1 : ∀ ms, D ≠ .interface ms) (h2 : isAggD D = false) (h : Good P (binOp op t a b) ρ j r) :
    Good P (do eqGuard op t x y a b; binOp op t a b) ρ j r := by
  obtain ⟨z, hz, hv⟩ := h
  exact ⟨z, fun w => by simp [Sem.run_bind, eqGuard_plain (x := x) (y := y) hD h1 h2 (hz w), hz w], hv⟩
theorem eqGuardType_plain : ∀ (d : Nat) (t : TypeId) (ks : List Nat), kindsT P d t = some ks → ∀ n, d ≤ n → P.eqGuardType n t = false
  | 0, _, _, h, _, _ => by cases h
  | d + 1, t, ks, h, n, hn => by
    obtain ⟨m, rfl⟩ : ∃ m, n = m + 1 := ⟨n - 1, by omega⟩
    have E : kindsT P (d + 1) t = (match undT P t with
      | .int k => some [kcode k]
      | .bool => some [8]
      | .string => some [9]
      | .struct fs => kindsF P (kindsT P d) fs.toList 0
      | _ => none) := rfl
    rw [E] at h
    cases hu : undT P t with
    | int k => have hD := und_of hu (by intro h; cases h); simp [Program.eqGuardType, hD]
    | bool => have hD := und_of hu (by intro h; cases h); simp [Program.eqGuardType, hD]
    | string => have hD := und_of hu (by intro h; cases h); simp [Program.eqGuardType, hD]
    | struct fs =>
      have hD := und_of hu (by intro h; cases h)
      rw [hu] at h
      have all : ∀ (l : List Field) (o : Nat) (ks : List Nat), kindsF P (kindsT P d) l o = some ks → ∀ f ∈ l, P.eqGuardType m f.type = false := by
        intro l
        induction l with
        | nil => intro _ _ _ f hf; cases hf
        | cons g l ih =>
          intro o ks h f hf
          simp only [kindsF] at h
          cases ho : Nat.beq g.offset o with
          | false => rw [ho] at h; cases h
          | true =>
            rw [ho] at h
            cases hg : kindsT P d g.type with
            | none => rw [hg] at h; cases h
            | some a =>
              rw [hg] at h
              simp only at h
              cases hs : Nat.beq (szOf P g.type) a.length with
              | false => rw [hs] at h; cases h
              | true =>
                rw [hs] at h
                cases hr : kindsF P (kindsT P d) l (Nat.add o a.length) with
                | none => rw [hr] at h; cases h
                | some r =>
                  rcases List.mem_cons.1 hf with rfl | hf
                  · exact eqGuardType_plain d _ a hg m (by omega)
                  · exact ih _ r hr f hf
      simp only [Program.eqGuardType, hD]
      rw [← Array.any_toList, List.any_eq_false]
      intro f hf
      rw [all fs.toList 0 ks h f hf]; simp
    | _ => rw [hu] at h; cases h
theorem depth_ge (P : Program) : 5 ≤ P.depth := by
  unfold Program.depth
  have : 2 ≤ Made.depth := by decide
  omega
structure XS (P : Program) (X : Exts) : Prop where
  st : XOK P X
  ng : ∀ (f : Nat) (fn : Func), P.funcs[f]? = some fn → fn.body.isSome = true → fn.name ≠ "runtime.NumGoroutine"
  ix : ∀ f, extOf f X = some .ixByte → ∀ (a b : Value) (w : World), (callFunc f #[a, b]).run P w = (do let v ← Extern.BytealgIndexByte.indexByte #[a, b]; pure (.value v) : Sem Next).run P w
theorem b2_top : True := trivial
theorem binK_ok (hX : XS P X) {op : BinOp} {t : TypeId} {x y : Operand} {ex ey e : E} {a b : Value} (h : binK P X (orBn (isC x) (isC y)) op t ex ey = .pure e) (ha : VR ρ j (ev ex env loc) a) (hb : VR ρ j (ev ey env loc) b) (hn : ev e env loc ≠ top) :
    Good P (do eqGuard op t x y a b; binOp op t a b) ρ j (ev e env loc) := by
  have d2 : ∀ f, ev (.d f ex ey) env loc = f (ev ex env loc) (ev ey env loc) := fun _ => rfl
  have gi : ∀ {D : TypeDesc} {f : AV → AV → AV}, P.underlying t = some D → (∀ ms, D ≠ .interface ms) → isAggD D = false → O2 P ρ j (binOp op t) f → e = .d f ex ey → Good P (do eqGuard op t x y a b; binOp op t a b) ρ j (ev e env loc) := by
    intro D f hD h1 h2 ho he
    subst he
    rw [d2] at hn ⊢
    exact guard_good hD h1 h2 (ho _ _ a b ha hb hn)
  have nilGood : ∀ {D : TypeDesc} {d : Nat}, P.underlying t = some D → KindD d D → (∀ ms, D ≠ .interface ms) → nilK d op ex ey = .pure e → Good P (do eqGuard op t x y a b; binOp op t a b) ρ j (ev e env loc) := by
    intro D d hD hk h1 h
    have h2 : isAggD D = false := by cases hk <;> rfl
    cases op <;> first | (cases h; done) | skip
    · injection h with h; exact gi hD h1 h2 (eql_nil_ok hk hD) h.symm
    · injection h with h; exact gi hD h1 h2 (neq_nil_ok hk hD) h.symm
  unfold binK at h
  cases hu : undT P t with
  | int k =>
    rw [hu] at h
    have hD := und_of hu (by intro h; cases h)
    have hi : ∀ ms, TypeDesc.int k ≠ .interface ms := fun _ h => by cases h
    cases op <;> first | (cases h; done) | skip
    all_goals (simp only at h; injection h with h)
    · exact gi hD hi rfl (add_ok k t) h.symm
    · exact gi hD hi rfl (sub_ok k t) h.symm
    · exact gi hD hi rfl (mul_ok k t) h.symm
    · exact gi hD hi rfl (quo_ok k t) h.symm
    · exact gi hD hi rfl (rem_ok k t) h.symm
    · exact gi hD hi rfl (and_ok k t) h.symm
    · exact gi hD hi rfl (or_ok k t) h.symm
    · exact gi hD hi rfl (xor_ok k t) h.symm
    · exact gi hD hi rfl (sh_ok k t true) h.symm
    · exact gi hD hi rfl (sh_ok k t false) h.symm
    · exact gi hD hi rfl (ieq_ok k t) h.symm
    · exact gi hD hi rfl (ine_ok k t) h.symm
    · exact gi hD hi rfl (ilt_ok k t) h.symm
    · exact gi hD hi rfl (ile_ok k t) h.symm
    · exact gi hD hi rfl (igt_ok k t) h.symm
    · exact gi hD hi rfl (ige_ok k t) h.symm
  | string =>
    rw [hu] at h
    have hD := und_of hu (by intro h; cases h)
    have hi : ∀ ms, TypeDesc.string ≠ .interface ms := fun _ h => by cases h
    cases op <;> first | (cases h; done) | skip
    all_goals (simp only at h; injection h with h)
    · exact gi hD hi rfl (scat_ok t) h.symm
    · exact gi hD hi rfl (seq_ok t) h.symm
    · exact gi hD hi rfl (sne_ok t) h.symm
    · exact gi hD hi rfl (slt_ok t) h.symm
    · exact gi hD hi rfl (sle_ok t) h.symm
    · exact gi hD hi rfl (sgt_ok t) h.symm
    · exact gi hD hi rfl (sge_ok t) h.symm
  | bool =>
    rw [hu] at h
    have hD := und_of hu (by intro h; cases h)
    have hi : ∀ ms, TypeDesc.bool ≠ .interface ms := fun _ h => by cases h
    cases op <;> first | (cases h; done) | skip
    all_goals (simp only at h; injection h with h)
    · exact gi hD hi rfl (beql_ok hD) h.symm
    · exact gi hD hi rfl (bneq_ok hD) h.symm
  | struct fs =>
    rw [hu] at h
    have hD := und_of hu (by intro h; cases h)
    simp only at h
    cases hk : keyT P X t with
    | none => rw [hk] at h; cases h
    | some ks =>
      rw [hk] at h
      have hkk : kindsT P 5 t = some ks := by
        unfold keyT at hk
        rw [hu] at hk
        simp only at hk
        cases hp : plainT t X with
        | true => rw [hp] at hk; exact hk
        | false => rw [hp] at hk; cases hk
      have hgt := eqGuardType_plain 5 t ks hkk P.depth (depth_ge P)
      have main : ∀ neg, op = (if neg then .neq else .eql) → e = .d (eqAg ks neg) ex ey → Good P (do eqGuard op t x y a b; binOp op t a b) ρ j (ev e env loc) := by
        intro neg ho he
        subst he
        rw [d2] at hn ⊢
        rw [ho]
        obtain ⟨z, hz, hv⟩ := eqAg_ok hX.st hu hk neg _ _ a b ha hb hn
        have hagg : ∃ u v, a = .agg u ∧ b = .agg v := by
          generalize ev ex env loc = A at *
          generalize ev ey env loc = B at *
          cases A with
          | x w0 t0 vs =>
            have E : eqAg ks neg (.x w0 t0 vs) B = bc (Nat.beq w0 0) (AV.cX B top fun w' _ vs' => bc (Nat.beq w' 0) (bc (conf ks vs) (eqAg.eqAg2 neg (eqVL vs vs')) top) top) top := rfl
            rw [E] at hn
            obtain ⟨q1, q2⟩ := bc_ne hn
            rw [beq_eq, decide_eq_true_eq] at q1
            cases B with
            | x w1 t1 vs' =>
              obtain ⟨q3, _⟩ := bc_ne (c := Nat.beq w1 0) (x := bc (conf ks vs) (eqAg.eqAg2 neg (eqVL vs vs')) top) q2
              rw [beq_eq, decide_eq_true_eq] at q3
              subst q1; subst q3
              obtain ⟨u, hu, _⟩ := agg_inv ha
              obtain ⟨v, hv, _⟩ := agg_inv hb
              exact ⟨u, v, hu, hv⟩
            | _ => exact absurd rfl q2
          | _ => exact absurd rfl hn
        obtain ⟨u, v, rfl, rfl⟩ := hagg
        refine ⟨z, fun w => ?_, hv⟩
        have hg : (eqGuard (if neg then .neq else .eql) t x y (.agg u) (.agg v)).run P w = .ok () w := by
          cases neg <;> simp [eqGuard, hgt, Sem.run_pure]
        simp only [Sem.run_bind, hg, Result.andThen_ok, hz w]
      cases op <;> first | (cases h; done) | skip
      all_goals (simp only at h; injection h with h)
      · exact main false rfl h.symm
      · exact main true rfl h.symm
  | pointer e' =>
    rw [hu] at h
    exact nilGood (und_of hu (by intro h; cases h)) (.p _) (fun _ h => by cases h) h
  | slice e' =>
    rw [hu] at h
    exact nilGood (und_of hu (by intro h; cases h)) (.s _) (fun _ h => by cases h) h
  | map k e' =>
    rw [hu] at h
    exact nilGood (und_of hu (by intro h; cases h)) (.m _ _) (fun _ h => by cases h) h
  | func p r v =>
    rw [hu] at h
    exact nilGood (und_of hu (by intro h; cases h)) (.f _ _ _) (fun _ h => by cases h) h
  | interface ms =>
    rw [hu] at h
    have hD := und_of hu (by intro h; cases h)
    simp only at h
    cases hc : orBn (isC x) (isC y) with
    | false => rw [hc] at h; cases h
    | true =>
      rw [hc] at h
      have h : nilK 6 op ex ey = .pure e := h
      have main : ∀ neg, op = (if neg then .neq else .eql) → e = .d (eqNil 6 neg) ex ey → Good P (do eqGuard op t x y a b; binOp op t a b) ρ j (ev e env loc) := by
        intro neg ho he
        subst he
        rw [d2] at hn ⊢
        obtain ⟨p, q, n1, n2, _, _⟩ := eqNil_val (by decide) ha hb hn
        have hz : Good P (binOp op t a b) ρ j (eqNil 6 neg (ev ex env loc) (ev ey env loc)) := by
          cases neg with
          | true => rw [ho]; exact neq_nil_ok (.i ms) hD _ _ a b ha hb hn
          | false => rw [ho]; exact eql_nil_ok (.i ms) hD _ _ a b ha hb hn
        obtain ⟨z, hz, hv⟩ := hz
        refine ⟨z, fun w => ?_, hv⟩
        have hg : (eqGuard op t x y a b).run P w = .ok () w := by
          have hcon : (x matches .const _) || (y matches .const _) := by
            cases x <;> cases y <;> first | rfl | (cases hc; done)
          rw [ho]
          cases n1 <;> cases n2 <;> cases neg <;> simp [eqGuard, Sem.run_pure]
          all_goals (cases x <;> cases y <;> first | (cases hc; done) | simp)
        simp only [Sem.run_bind, hg, Result.andThen_ok, hz w]
      cases op <;> first | (cases h; done) | skip
      all_goals (injection h with h)
      · exact main false rfl h.symm
      · exact main true rfl h.symm
  | _ => rw [hu] at h; cases h
end
end Go.Ev
end
section
namespace Go.Ev
open Go
section
variable {P : Program} {ρ : Rho} {j : Nat} {X : Exts} {env : Env} {loc : List AV}
theorem ev_u (f : AV → AV) (x : E) : ev (.u f x) env loc = f (ev x env loc) := rfl
theorem ev_d (f : AV → AV → AV) (x y : E) : ev (.d f x y) env loc = f (ev x env loc) (ev y env loc) := rfl
theorem ev_t (f : AV → AV → AV → AV) (x y z : E) : ev (.t f x y z) env loc = f (ev x env loc) (ev y env loc) (ev z env loc) := rfl
theorem ev_args (f : Operand → E) : ∀ l : List Operand, ev (args f l) env loc = .x 1 0 (l.map fun x => ev (f x) env loc)
  | [] => rfl
  | x :: l => by
    have E : ev (args f (x :: l)) env loc = AV.cX (ev (args f l) env loc) top fun _ _ vs => .x 1 0 (ev (f x) env loc :: vs) := rfl
    rw [E, ev_args f l]; rfl
theorem ev_argsP (f : Operand → E) : ∀ l : List (Nat × Operand), ev (argsP f l) env loc = .x 1 0 (l.map fun x => ev (f x.2) env loc)
  | [] => rfl
  | (k, x) :: l => by
    have E : ev (argsP f ((k, x) :: l)) env loc = AV.cX (ev (argsP f l) env loc) top fun _ _ vs => .x 1 0 (ev (f x) env loc :: vs) := rfl
    rw [E, ev_argsP f l]; rfl
def Told (ρ : Rho) (j : Nat) (f : Operand → E) (rv : Operand → Value) (env : Env) (loc : List AV) : Prop := ∀ x, VR ρ j (ev (f x) env loc) (rv x)
theorem Told.list {f : Operand → E} {rv : Operand → Value} (h : Told ρ j f rv env loc) : ∀ l : List Operand, VRs ρ j (l.map fun x => ev (f x) env loc) (l.map rv)
  | [] => .nil
  | x :: l => .cons (h x) (h.list l)
theorem Told.opt {f : Operand → E} {rv : Operand → Value} (h : Told ρ j f rv env loc) (x : Option Operand) : OR ρ j (ev (optE f x) env loc) (x.map rv) := by
  cases x with
  | none => exact .inl ⟨rfl, rfl⟩
  | some x => exact .inr ⟨_, rfl, h x⟩
theorem unK_ok {op : UnOp} {t : TypeId} {ex e : E} {a : Value} (h : unK P op t ex = .pure e) (ha : VR ρ j (ev ex env loc) a) (hn : ev e env loc ≠ top) : Good P (Op.unary op a) ρ j (ev e env loc) := by
  unfold unK at h
  cases op with
  | not =>
    injection h with h; subst h
    rw [ev_u] at hn ⊢
    exact not1_ok _ a ha hn
  | neg =>
    cases hu : undT P t with
    | int k => rw [hu] at h; injection h with h; subst h; rw [ev_u] at hn ⊢; exact neg_ok k _ a ha hn
    | _ => rw [hu] at h; cases h
  | xor =>
    cases hu : undT P t with
    | int k => rw [hu] at h; injection h with h; subst h; rw [ev_u] at hn ⊢; exact not_ok k _ a ha hn
    | _ => rw [hu] at h; cases h
  | plus => cases hu : undT P t <;> rw [hu] at h <;> cases h
theorem slK_ok {n ok : Bool} {t : TypeId} {f : Operand → E} {rv : Operand → Value} {x : Operand} {lo hi mx : Option Operand} {e : E} (hT : Told ρ j f rv env loc) (hnn : n = isN mx) (hok : ok = mxOk hi mx)
    (h : slK P n ok t (f x) (optE f lo) (optE f hi) (optE f mx) = .pure e) (hne : ev e env loc ≠ top) : Good P (Instr.sliceAt t (rv x) (lo.map rv) (hi.map rv) (mx.map rv)) ρ j (ev e env loc) := by
  unfold slK at h
  cases hu : undT P t with
  | string =>
    rw [hu] at h
    cases n with
    | false => cases h
    | true =>
      injection h with h; subst h
      have hm : mx = none := by cases mx with | none => rfl | some _ => cases hnn
      subst hm
      have hD := und_of hu (by intro h; cases h)
      rw [ev_t] at hne ⊢
      obtain ⟨z, hz, hv⟩ := sls_ok hD (hT x) (hT.opt lo) (hT.opt hi) hne
      exact ⟨z, fun w => by
        have : (Instr.sliceAt t (rv x) (lo.map rv) (hi.map rv) ((none : Option Operand).map rv)).run P w = (Instr.slice t (rv x) (lo.map rv) (hi.map rv) none).run P w := by
          simp [Instr.sliceAt, und_run hD]
        rw [this]; exact hz w, hv⟩
  | slice e' =>
    rw [hu] at h
    cases ok with
    | false => cases h
    | true =>
      obtain ⟨hi1, h⟩ := onB_pure h
      injection h with h; subst h
      obtain ⟨i, hi'⟩ := infB_inv hi1
      have hD := und_of hu (by intro h; cases h)
      rw [szOf_eq hi'] at hne ⊢
      rw [ev_t] at hne ⊢
      have e2 : ev (.cons (optE f hi) (.cons (optE f mx) .nil)) env loc = .x 1 0 [ev (optE f hi) env loc, ev (optE f mx) env loc] := rfl
      rw [e2] at hne ⊢
      exact sll_ok hD hi' (hT x) (hT.opt lo) (hT.opt hi) (hT.opt mx) (by
        intro hs
        cases mx with
        | none => cases hs
        | some m => cases hi with
          | none => cases hok
          | some _ => rfl) hne
  | array k e' =>
    rw [hu] at h
    cases n with
    | false => cases h
    | true =>
      have hm : mx = none := by cases mx with | none => rfl | some _ => cases hnn
      subst hm
      obtain ⟨hi1, h⟩ := onB_pure h
      injection h with h; subst h
      obtain ⟨i, hi'⟩ := infB_inv hi1
      have hD := und_of hu (by intro h; cases h)
      rw [szOf_eq hi'] at hne ⊢
      rw [ev_t] at hne ⊢
      exact sla_ok hD hi' (hT x) (hT.opt lo) (hT.opt hi) hne
  | _ => rw [hu] at h; cases h
theorem fldOf_inv {t : TypeId} {k : Nat} {fd : Field} (h : fldOf P t k = some fd) : ∃ fs, P.underlying t = some (.struct fs) ∧ fs[k]? = some fd := by
  unfold fldOf at h
  cases hu : undT P t with
  | struct fs => rw [hu] at h; exact ⟨fs, und_of hu (by intro h; cases h), h⟩
  | _ => rw [hu] at h; cases h
theorem minmax_ok {k : IntKind} {t1 _t2 _ty : TypeId} (_ht : P.underlying t1 = some (.int k)) : True := trivial
theorem biK_ok {b : Builtin} {ts : List TypeId} {f : Operand → E} {rv : Operand → Value} {l : List Operand} {e : E} {ty : TypeId} {cs : Array Bool} (hT : Told ρ j f rv env loc) (h : biK P b ts (l.map f) = .pure e) (hn : ev e env loc ≠ top) :
    ∃ z, (∀ w, (builtin b ts.toArray ty cs (l.map rv).toArray).run P w = .ok (.value z) w) ∧ VR ρ j (ev e env loc) z := by
  have fin : ∀ {s : Sem Value}, Good P s ρ j (ev e env loc) → (∀ w, (builtin b ts.toArray ty cs (l.map rv).toArray).run P w = (do pure (.value (← s)) : Sem Next).run P w) → ∃ z, (∀ w, (builtin b ts.toArray ty cs (l.map rv).toArray).run P w = .ok (.value z) w) ∧ VR ρ j (ev e env loc) z := by
    intro s ⟨z, hz, hv⟩ hr
    exact ⟨z, fun w => by rw [hr w]; simp [hz w], hv⟩
  unfold biK at h
  split at h
  · rename_i x t hl
    obtain ⟨o, rfl⟩ : ∃ o, l = [o] := by
      cases l with
      | nil => cases hl
      | cons a r => cases r with
        | nil => exact ⟨a, rfl⟩
        | cons b r => cases hl
    injection hl with hl _
    subst hl
    cases hu : undT P t with
    | map a b => rw [hu] at h; cases h
    | slice e' =>
      rw [hu] at h; injection h with h; subst h
      rw [ev_u] at hn ⊢
      exact fin (lenSl_ok (ty := ty) (und_of hu (by intro h; cases h)) _ _ (hT o) hn) (fun w => rfl)
    | string =>
      rw [hu] at h; injection h with h; subst h
      rw [ev_u] at hn ⊢
      exact fin (len1_ok (ty := ty) (und_of hu (by intro h; cases h)) _ _ (hT o) hn) (fun w => rfl)
    | _ => rw [hu] at h; cases h
  · rename_i s x st xt hl
    have h : appK P st xt s x = .pure e := h
    unfold appK at h
    cases hu : undT P st <;> rw [hu] at h <;> first | (cases h; done) | (obtain ⟨_, h⟩ := onB_pure h; cases h)
  · rename_i d s dt st hl
    cases hu : undT P dt <;> rw [hu] at h <;> first | (cases h; done) | (cases hv : undT P st <;> rw [hv] at h <;> first | (cases h; done) | (obtain ⟨_, h⟩ := onB_pure h; cases h))
  · rename_i s st hl
    cases hu : undT P st <;> rw [hu] at h <;> first | (cases h; done) | (obtain ⟨_, h⟩ := onB_pure h; cases h)
  · rename_i x y t t2 hl
    obtain ⟨o, p, rfl⟩ : ∃ o p, l = [o, p] := by
      cases l with
      | nil => cases hl
      | cons a r => cases r with
        | nil => cases hl
        | cons b r => cases r with
          | nil => exact ⟨a, b, rfl⟩
          | cons c r => cases hl
    injection hl with h1 hl
    injection hl with h2 _
    subst h1; subst h2
    cases hu : undT P t with
    | int k =>
      rw [hu] at h; injection h with h; subst h
      have hD := und_of hu (by intro h; cases h)
      rw [ev_d] at hn ⊢
      have o2 : O2 P ρ j (fun a b => Builtin.min_ #[t, t2] ty #[a, b]) (int2 (kcode k) (fMin (kcode k) (hf (kcode k)))) := by
        refine int2_ok fun a b ra rb _ => ⟨.int k (if a ≤ b then a else b), fun w => ?_, min_ok k a b ra rb⟩
        have e : (Builtin.min_ #[t, t2] ty #[.int k a, .int k b]).run P w = .ok (.int k (if b < a then b else a)) w := rfl
        rw [e]
        by_cases hab : b < a
        · rw [if_pos hab, if_neg (Int.not_le.2 hab)]
        · rw [if_neg hab, if_pos (Int.not_lt.1 hab)]
      exact fin (o2 _ _ _ _ (hT o) (hT p) hn) (fun w => rfl)
    | _ => rw [hu] at h; cases h
  · rename_i x y t t2 hl
    obtain ⟨o, p, rfl⟩ : ∃ o p, l = [o, p] := by
      cases l with
      | nil => cases hl
      | cons a r => cases r with
        | nil => cases hl
        | cons b r => cases r with
          | nil => exact ⟨a, b, rfl⟩
          | cons c r => cases hl
    injection hl with h1 hl
    injection hl with h2 _
    subst h1; subst h2
    cases hu : undT P t with
    | int k =>
      rw [hu] at h; injection h with h; subst h
      have hD := und_of hu (by intro h; cases h)
      rw [ev_d] at hn ⊢
      have o2 : O2 P ρ j (fun a b => Builtin.max_ #[t, t2] ty #[a, b]) (int2 (kcode k) (fMax (kcode k) (hf (kcode k)))) := by
        refine int2_ok fun a b ra rb _ => ⟨.int k (if a ≤ b then b else a), fun w => ?_, max_ok k a b ra rb⟩
        have e : (Builtin.max_ #[t, t2] ty #[.int k a, .int k b]).run P w = .ok (.int k (if b > a then b else a)) w := rfl
        rw [e]
        by_cases hab : a < b
        · rw [if_pos hab, if_pos (Int.le_of_lt hab)]
        · by_cases hab' : a ≤ b
          · have : a = b := by omega
            rw [if_neg (by omega), if_pos hab', this]
          · rw [if_neg (by omega), if_neg hab']
      exact fin (o2 _ _ _ _ (hT o) (hT p) hn) (fun w => rfl)
    | _ => rw [hu] at h; cases h
  · cases h
  · cases h
end
end Go.Ev
end
section
namespace Go.Ev
open Go
section
variable {P : Program} {ρ : Rho} {j : Nat} {X : Exts} {env : Env} {loc : List AV}
theorem pureNext {s : Sem Value} {r : AV} (h : Good P s ρ j r) : ∃ x, (∀ w, (do pure (.value (← s)) : Sem Next).run P w = .ok (.value x) w) ∧ VR ρ j r x := by
  obtain ⟨z, hz, hv⟩ := h
  exact ⟨z, fun w => by simp [hz w], hv⟩
theorem idx1_eq : ∀ l : List (Nat × Operand), idx1 l = l.map (·.1)
  | [] => rfl
  | (a, b) :: l => by show a :: idx1 l = _; rw [idx1_eq l]; rfl
theorem trO_pure (hX : XS P X) {f : Operand → E} {rv : Operand → Value} {o : Oper} {e : E} (hT : Told ρ j f rv env loc) (hF : ∀ g, rv (.func g) = .func (.func g) #[] #[]) (h : trO P X f o.op = .pure e) (hn : ev e env loc ≠ top) :
    ∃ x, (∀ w, (execOp rv o).run P w = .ok (.value x) w) ∧ VR ρ j (ev e env loc) x := by
  obtain ⟨dst, op, ty, pos, after, guard⟩ := o
  have h : trO P X f op = .pure e := h
  show ∃ x, (∀ w, (execOp rv ⟨dst, op, ty, pos, after, guard⟩).run P w = .ok (.value x) w) ∧ VR ρ j (ev e env loc) x
  cases op with
  | move x => cases h
  | assign x => cases h
  | pick c a b =>
    injection h with h; subst h
    have E : ev (.ite (f c) (f a) (f b)) env loc = AV.cB (ev (f c) env loc) top fun b' => Bool.rec (motive := fun _ => AV) (ev (f b) env loc) (ev (f a) env loc) b' := rfl
    rw [E] at hn ⊢
    have hc := hT c
    cases hq : ev (f c) env loc with
    | b q =>
      rw [hq] at hn hc
      have hcv := hc.bool
      cases q with
      | true => exact ⟨rv a, fun w => by simp [execOp, hcv, asBool, Sem.run_pure], hT a⟩
      | false => exact ⟨rv b, fun w => by simp [execOp, hcv, asBool, Sem.run_pure], hT b⟩
    | _ => rw [hq] at hn; exact absurd rfl hn
  | alloc t =>
    obtain ⟨_, h⟩ := onB_pure h
    cases h
  | box t x => cases h
  | build t ps =>
    obtain ⟨hc, h⟩ := onB_pure h
    injection h with h; subst h
    obtain ⟨hc1, hc2⟩ := andOf hc
    obtain ⟨hc3, hc4⟩ := andOf hc1
    rw [ev_u, ev_argsP] at hn ⊢
    have hv : VRs ρ j (ps.toList.map fun x => ev (f x.2) env loc) (ps.toList.map fun x => rv x.2) := by
      have := hT.list (ps.toList.map (·.2))
      rw [List.map_map, List.map_map] at this; exact this
    obtain ⟨z, hz, hvr⟩ := bld_ok hc3 hc4 hc2 (by simp) hv hn
    refine ⟨z, fun w => ?_, hvr⟩
    have e1 : ((idx1 ps.toList).zip (ps.toList.map fun x => rv x.2)).toArray = ps.map fun (i, x) => (i, rv x) := by
      apply Array.ext'
      rw [idx1_eq, Array.toList_map]
      have : ∀ l : List (Nat × Operand), (l.map (·.1)).zip (l.map fun x => rv x.2) = l.map fun (i, x) => (i, rv x) := by
        intro l
        induction l with
        | nil => rfl
        | cons p l ih => rw [List.map_cons, List.map_cons, List.zip_cons_cons, ih, List.map_cons]
      exact this ps.toList
    rw [e1] at hz
    simp [execOp, hz w]
  | buildSlice t n ps =>
    have h : bslK P t n (idx1 ps.toList) (argsP f ps.toList) = .pure e := h
    unfold bslK at h
    cases hu : undT P t <;> rw [hu] at h <;> first | (cases h; done) | (obtain ⟨_, h⟩ := onB_pure h; cases h)
  | insert t m k v =>
    simp only [trO, upK] at h
    cases hu : undT P t <;> rw [hu] at h <;> first | (cases h; done) | skip
    rename_i k' e'
    cases hk : keyT P X k' with
    | none => simp only [hk] at h; cases h
    | some ks => simp only [hk] at h; cases h
  | load t x => obtain ⟨_, h⟩ := onB_pure h; cases h
  | store t x v => obtain ⟨_, h⟩ := onB_pure h; cases h
  | nilCheck x =>
    injection h with h; subst h
    rw [ev_u] at hn ⊢
    obtain ⟨h1, h2⟩ := nilc_ok (hT x) hn
    rw [h1]
    refine ⟨rv x, fun w => ?_, hT x⟩
    rcases h2 with ⟨a, ha⟩ | ⟨t, u, ha⟩ | ⟨g, a, c, ha⟩ <;> simp [execOp, ha, Sem.run_pure]
  | binOp op t x y yt =>
    exact pureNext (binK_ok hX h (hT x) (hT y) hn)
  | unOp op t x => exact pureNext (unK_ok h (hT x) hn)
  | convert s d x =>
    simp only [trO, cvK] at h
    cases hs : undT P s <;> rw [hs] at h
    case int k1 =>
      cases hd : undT P d <;> rw [hd] at h <;> first | (cases h; done) | skip
      rename_i k2
      injection h with h; subst h
      have hD1 := und_of hs (by intro h; cases h)
      have hD2 := und_of hd (by intro h; cases h)
      rw [ev_u] at hn ⊢
      refine pureNext (s := convert s d (rv x)) (cv_ok k1 k2 (convert s d) (fun a w => ?_) _ _ (hT x) hn)
      simp [convert, und_run hD1, und_run hD2, Conv.intToInt, Sem.run_pure]
    case string =>
      cases hd : undT P d <;> rw [hd] at h <;> first | (cases h; done) | skip
      · injection h with h; subst h
        have hD1 := und_of hs (by intro h; cases h)
        have hD2 := und_of hd (by intro h; cases h)
        rw [ev_u] at hn ⊢
        have o1 : O1 P ρ j (convert s d) strI1 := by
          intro x v hx hn
          cases x with
          | s l c =>
            obtain ⟨bs, rfl, rfl, rfl⟩ := hx.str
            exact ⟨.string bs, fun w => by simp [convert, und_run hD1, und_run hD2, Sem.run_pure], .s bs⟩
          | _ => exact absurd rfl hn
        exact pureNext (isl1_ok o1 _ _ (hT x) hn)
      rename_i e'
      cases he : undT P e' <;> simp only [he] at h <;> first | (cases h; done) | skip
      rename_i k
      cases k <;> cases h
    case slice e1 =>
      cases hd : undT P d <;> rw [hd] at h <;> first | (cases h; done) | skip
      · cases he : undT P e1 <;> simp only [he] at h <;> first | (cases h; done) | skip
        rename_i k
        cases k <;> cases h
      · cases hb : Nat.beq s d <;> cases he : undT P e1 <;> simp only [hb, he] at h <;> first | (cases h; done) | skip
        rename_i k
        cases k <;> cases h
    all_goals (cases hd : undT P d <;> rw [hd] at h <;> cases h)
  | sliceToArrayPointer d x => cases h
  | makeInterface t x =>
    obtain ⟨hc, h⟩ := onB_pure h
    injection h with h; subst h
    obtain ⟨h1, h2⟩ := cncB_inv hc
    rw [ev_u] at hn ⊢
    exact pureNext (mkif_ok h1 h2 _ _ (hT x) hn)
  | makeFunc fn a b =>
    simp only [trO, mkfK] at h
    cases fn with
    | func g =>
      injection h with h; subst h
      rw [ev_u, ev_args] at hn ⊢
      have hv : VRs ρ j ((a.toList ++ b.toList).map fun x => ev (f x) env loc) ((a.map rv).toList ++ (b.map rv).toList) := by
        have := hT.list (a.toList ++ b.toList)
        rw [List.map_append (f := rv)] at this
        simpa using this
      have hsz : (a.map rv).size = a.toList.length := by simp
      refine ⟨.func (.func g) (a.map rv) (b.map rv), fun w => by simp [execOp, Instr.makeFunc, Sem.run_pure], ?_⟩
      rw [← hsz] at hn ⊢
      exact mkfn_ok hv hn
    | _ => cases h
  | makeMap t r => cases r <;> cases h
  | makeChan t s => cases h
  | makeSlice t l c =>
    have h : mksK P t (f l) (f c) = .pure e := h
    unfold mksK at h
    cases hu : undT P t <;> rw [hu] at h <;> first | (cases h; done) | (obtain ⟨_, h⟩ := onB_pure h; cases h)
  | slice t x lo hi mx => exact pureNext (slK_ok hT rfl rfl h hn)
  | fieldAddr t x k =>
    simp only [trO, fadK] at h
    cases hf : fldOf P t k with
    | none => rw [hf] at h; cases h
    | some fd =>
      rw [hf] at h
      simp only at h
      obtain ⟨fs, hD, hfs⟩ := fldOf_inv hf
      cases hz : szOf P fd.type with
      | zero => rw [hz] at h; cases h
      | succ n =>
        rw [hz] at h
        injection h with h; subst h
        cases hi : P.info? fd.type with
        | none =>
          have : szOf P fd.type = 0 := by unfold szOf; rw [hi]
          omega
        | some i =>
          rw [szOf_eq hi] at hz
          rw [ev_u] at hn ⊢
          exact pureNext (fad_ok hD hfs hi (by omega) _ _ (hT x) hn)
  | field t x k =>
    simp only [trO, fldK] at h
    cases hf : fldOf P t k with
    | none => rw [hf] at h; cases h
    | some fd =>
      rw [hf] at h
      obtain ⟨hc, h⟩ := onB_pure h
      injection h with h; subst h
      obtain ⟨fs, hD, hfs⟩ := fldOf_inv hf
      have hDf := vldB_inv hc
      obtain ⟨i, hi⟩ := info_of hDf
      rw [szOf_eq hi] at hn ⊢
      rw [ev_u] at hn ⊢
      exact pureNext (fld_ok hD hfs hDf hi _ _ (hT x) hn)
  | indexAddr t x y =>
    simp only [trO, iadK] at h
    cases hu : undT P t <;> rw [hu] at h <;> first | (cases h; done) | skip
    · rename_i n e'
      obtain ⟨hc, h⟩ := onB_pure h
      injection h with h; subst h
      obtain ⟨i, hi⟩ := infB_inv hc
      rw [szOf_eq hi] at hn ⊢
      rw [ev_d] at hn ⊢
      exact pureNext (iad_ok (und_of hu (by intro h; cases h)) hi _ _ _ _ (hT x) (hT y) hn)
    · rename_i e'
      obtain ⟨hc, h⟩ := onB_pure h
      injection h with h; subst h
      obtain ⟨i, hi⟩ := infB_inv hc
      rw [szOf_eq hi] at hn ⊢
      rw [ev_d] at hn ⊢
      exact pureNext (iada_ok (und_of hu (by intro h; cases h)) hi _ _ _ _ (hT x) (hT y) hn)
  | index t x y =>
    simp only [trO, ixK] at h
    cases hu : undT P t <;> rw [hu] at h <;> first | (cases h; done) | skip
    · injection h with h; subst h
      rw [ev_d] at hn ⊢
      exact pureNext (ixs_ok (und_of hu (by intro h; cases h)) _ _ _ _ (hT x) (hT y) hn)
    · rename_i n e'
      obtain ⟨hc, h⟩ := onB_pure h
      injection h with h; subst h
      have hDe := vldB_inv hc
      obtain ⟨i, hi⟩ := info_of hDe
      rw [szOf_eq hi] at hn ⊢
      rw [ev_d] at hn ⊢
      exact pureNext (ixa_ok (und_of hu (by intro h; cases h)) hDe hi _ _ _ _ (hT x) (hT y) hn)
  | lookup t x y ok =>
    simp only [trO, lkK] at h
    cases hu : undT P t <;> rw [hu] at h <;> first | (cases h; done) | skip
    rename_i k' e'
    cases hk : keyT P X k' with
    | none => simp only [hk] at h; cases h
    | some ks => simp only [hk] at h; obtain ⟨_, h⟩ := onB_pure h; cases h
  | mapUpdate t m k v =>
    simp only [trO, upK] at h
    cases hu : undT P t <;> rw [hu] at h <;> first | (cases h; done) | skip
    rename_i k' e'
    cases hk : keyT P X k' with
    | none => simp only [hk] at h; cases h
    | some ks => simp only [hk] at h; cases h
  | typeAssert x xt t ok =>
    obtain ⟨hc, h⟩ := onB_pure (show onB (andB (cncB P t) (hasZ P t)) (.pure (.u (tas t (zeroV P t) ok) (f x))) (badK 18) = .pure e from h)
    injection h with h; subst h
    obtain ⟨hc1, hc2⟩ := andOf hc
    obtain ⟨h1, h2⟩ := cncB_inv hc1
    obtain ⟨i, z, hi, hiz, hzr, hzv⟩ := hasZ_inv hc2
    rw [ev_u] at hn ⊢
    exact pureNext (tas_ok (xt := xt) h1 h2 hzr (by rw [hzv]; exact cvt_ok 5 z) _ _ (hT x) hn)
  | extract x k =>
    injection h with h; subst h
    rw [ev_u] at hn ⊢
    exact pureNext (exA_ok k _ _ (hT x) hn)
  | call c =>
    simp only [trO, callK] at h
    cases hc : c.callee with
    | value g =>
      rw [hc] at h
      cases g with
      | func g =>
        simp only at h
        cases hx : extOf g X with
        | none => rw [hx] at h; cases h
        | some k =>
          rw [hx] at h
          cases k with
          | st => cases h
          | ixByte =>
            simp only at h
            split at h
            · rename_i x y hl
              injection h with h; subst h
              rw [ev_d] at hn ⊢
              obtain ⟨z, hz, hv⟩ := ixb_ok (P := P) _ _ _ _ (hT x) (hT y) hn
              have hz : ∀ w, (Extern.BytealgIndexByte.indexByte #[rv x, rv y]).run P w = .ok z w := hz
              refine ⟨z, fun w => ?_, hv⟩
              have ha : c.args.map rv = #[rv x, rv y] := by
                apply Array.ext'; rw [Array.toList_map, hl]; rfl
              simp only [execOp, resolve, ha, hc, hF, Deferred.ofValue, Sem.run_bind, Sem.run_pure, Result.andThen_ok, invoke]
              have e0 : (#[] ++ #[rv x, rv y] ++ #[] : Array Value) = #[rv x, rv y] := rfl
              rw [e0, hX.ix g hx]
              simp only [Sem.run_bind, hz w, Result.andThen_ok, Sem.run_pure]
            · cases h
      | _ => cases h
    | builtin b =>
      rw [hc] at h
      obtain ⟨z, hz, hv⟩ := biK_ok (ty := ty) (cs := c.args.map fun | .const _ => true | _ => false) hT h hn
      refine ⟨z, fun w => ?_, hv⟩
      have := hz w
      simp only [execOp, resolve, hc, Sem.run_bind, Sem.run_pure, Result.andThen_ok, invoke]
      have e1 : (c.args.toList.map rv).toArray = c.args.map rv := by apply Array.ext'; simp
      rw [e1, Array.toArray_toList] at this
      exact this
    | invoke r m => rw [hc] at h; cases h
  | defer c =>
    simp only [trO] at h
    cases hc : c.callee <;> rw [hc] at h <;> cases h
  | _ => cases h
end
end Go.Ev
end
section
namespace Go.Ev
open Go
section
variable {P : Program} {ρ : Rho} {j B0 : Nat} {X : Exts} {env : Env} {loc : List AV} {w : World} {hp h' : Hp} {u : AV}
theorem biK_ntot (b : Builtin) (ts : List TypeId) (as : List E) (e : E) : biK P b ts as ≠ .tot e := by
  intro h
  have onBt : ∀ {b : Bool} {x : K} {w : Nat} {e : E}, onB b x (badK w) = .tot e → x = .tot e := by
    intro b x w e h; cases b with
    | true => exact h
    | false => cases h
  unfold biK at h
  split at h
  · rename_i x t
    cases hu : undT P t <;> rw [hu] at h <;> cases h
  · rename_i s x st xt
    have h : appK P st xt s x = .tot e := h
    unfold appK at h
    cases hu : undT P st <;> rw [hu] at h <;> first | (cases h; done) | cases onBt h
  · rename_i d s dt st
    cases hu : undT P dt <;> rw [hu] at h <;> first | (cases h; done) | (cases hv : undT P st <;> rw [hv] at h <;> first | (cases h; done) | cases onBt h)
  · rename_i s st
    cases hu : undT P st <;> rw [hu] at h <;> first | (cases h; done) | cases onBt h
  · rename_i x y t t2
    cases hu : undT P t <;> rw [hu] at h <;> cases h
  · rename_i x y t t2
    cases hu : undT P t <;> rw [hu] at h <;> cases h
  · cases h
  · cases h
theorem trO_tot {f : Operand → E} {rv : Operand → Value} {o : Oper} {e : E} (h : trO P X f o.op = .tot e) : ∃ y, e = f y ∧ ∀ w, (execOp rv o).run P w = .ok (.value (rv y)) w := by
  obtain ⟨dst, op, ty, pos, after, guard⟩ := o
  have h : trO P X f op = .tot e := h
  show ∃ y, e = f y ∧ ∀ w, (execOp rv ⟨dst, op, ty, pos, after, guard⟩).run P w = .ok (.value (rv y)) w
  have onBt : ∀ {b : Bool} {x : K} {w : Nat} {e : E}, onB b x (badK w) = .tot e → x = .tot e := by
    intro b x w e h; cases b with
    | true => exact h
    | false => cases h
  cases op with
  | move x => injection h with h; exact ⟨x, h.symm, fun w => rfl⟩
  | assign x => injection h with h; exact ⟨x, h.symm, fun w => rfl⟩
  | alloc t => cases onBt h
  | build t ps => cases onBt h
  | buildSlice t n ps =>
    have h : bslK P t n (idx1 ps.toList) (argsP f ps.toList) = .tot e := h
    unfold bslK at h
    cases hu : undT P t <;> rw [hu] at h <;> first | (cases h; done) | cases onBt h
  | load t x => cases onBt h
  | store t x v => cases onBt h
  | makeInterface t x => cases onBt h
  | makeSlice t l c =>
    have h : mksK P t (f l) (f c) = .tot e := h
    unfold mksK at h
    cases hu : undT P t <;> rw [hu] at h <;> first | (cases h; done) | cases onBt h
  | typeAssert x xt t ok => cases onBt (show onB (andB (cncB P t) (hasZ P t)) (.pure (.u (tas t (zeroV P t) ok) (f x))) (badK 18) = .tot e from h)
  | binOp op t x y yt =>
    have h : binK P X (orBn (isC x) (isC y)) op t (f x) (f y) = .tot e := h
    unfold binK at h
    cases hu : undT P t <;> rw [hu] at h <;> first | (cases h; done) | skip
    all_goals (first | (cases op <;> first | (cases h; done) | skip) | skip)
    all_goals (first | (cases hk : keyT P X t <;> simp only [hk] at h <;> cases h; done) | skip)
    all_goals (cases hc : orBn (isC x) (isC y) <;> simp only [hc] at h <;> cases h)
  | unOp op t x =>
    simp only [trO] at h
    cases op <;> cases hu : undT P t <;> simp only [unK, hu] at h <;> cases h
  | convert s d x =>
    simp only [trO, cvK] at h
    cases hs : undT P s <;> rw [hs] at h <;> cases hd : undT P d <;> rw [hd] at h <;> first | (cases h; done) | skip
    · rename_i e'
      cases he : undT P e' <;> simp only [he] at h <;> first | (cases h; done) | skip
      rename_i k
      cases k <;> cases h
    · rename_i e'
      cases he : undT P e' <;> simp only [he] at h <;> first | (cases h; done) | skip
      rename_i k
      cases k <;> cases h
    · rename_i e1 e2
      cases hb : Nat.beq s d <;> cases he : undT P e1 <;> simp only [hb, he] at h <;> first | (cases h; done) | skip
      rename_i k
      cases k <;> cases h
  | makeFunc fn a b =>
    simp only [trO, mkfK] at h
    cases fn <;> cases h
  | makeMap t r => cases r <;> cases h
  | slice t x lo hi mx =>
    simp only [trO, slK] at h
    cases hu : undT P t <;> rw [hu] at h <;> first | (cases h; done) | skip
    · cases hn : isN mx <;> rw [hn] at h <;> cases h
    · cases hn : mxOk hi mx <;> rw [hn] at h
      · cases h
      · cases onBt h
    · cases hn : isN mx <;> rw [hn] at h
      · cases h
      · cases onBt h
  | fieldAddr t x k =>
    simp only [trO, fadK] at h
    cases hf : fldOf P t k with
    | none => rw [hf] at h; cases h
    | some fd => rw [hf] at h; simp only at h; cases hz : szOf P fd.type <;> rw [hz] at h <;> cases h
  | field t x k =>
    simp only [trO, fldK] at h
    cases hf : fldOf P t k with
    | none => rw [hf] at h; cases h
    | some fd => rw [hf] at h; cases onBt h
  | indexAddr t x y =>
    simp only [trO, iadK] at h
    cases hu : undT P t <;> rw [hu] at h <;> first | (cases h; done) | cases onBt h
  | index t x y =>
    simp only [trO, ixK] at h
    cases hu : undT P t <;> rw [hu] at h <;> first | (cases h; done) | cases onBt h
  | lookup t x y ok =>
    simp only [trO, lkK] at h
    cases hu : undT P t <;> rw [hu] at h <;> first | (cases h; done) | skip
    rename_i k' e'
    cases hk : keyT P X k' with
    | none => simp only [hk] at h; cases h
    | some ks => simp only [hk] at h; cases onBt h
  | insert t m k v =>
    simp only [trO, upK] at h
    cases hu : undT P t <;> rw [hu] at h <;> first | (cases h; done) | skip
    rename_i k' e'
    cases hk : keyT P X k' <;> simp only [hk] at h <;> cases h
  | mapUpdate t m k v =>
    simp only [trO, upK] at h
    cases hu : undT P t <;> rw [hu] at h <;> first | (cases h; done) | skip
    rename_i k' e'
    cases hk : keyT P X k' <;> simp only [hk] at h <;> cases h
  | call c =>
    simp only [trO, callK] at h
    cases hc : c.callee with
    | value g =>
      rw [hc] at h
      cases g with
      | func g =>
        simp only at h
        cases hx : extOf g X with
        | none => rw [hx] at h; cases h
        | some k =>
          rw [hx] at h
          cases k with
          | st => cases h
          | ixByte =>
            simp only at h
            split at h <;> cases h
      | _ => cases h
    | builtin b =>
      rw [hc] at h
      exact absurd h (biK_ntot _ _ _ _)
    | invoke r m => rw [hc] at h; cases h
  | defer c =>
    simp only [trO] at h
    cases hc : c.callee <;> rw [hc] at h <;> cases h
  | _ => cases h
end
end Go.Ev
end
section
namespace Go.Ev
open Go
section
variable {P : Program} {ρ : Rho} {j B0 : Nat} {X : Exts} {env : Env} {loc : List AV} {w : World} {hp h' : Hp} {u : AV}
def DoesN (P : Program) (j B0 : Nat) (s : Sem Next) (ρ : Rho) (w : World) (h : Hp) (v : AV) : Prop :=
  ∃ nx x w' ρ', s.run P w = .ok nx w' ∧ (nx = .value x ∨ (nx = .skip ∧ x = undef)) ∧ DoesP P j B0 ρ w h v x w' ρ'
theorem Does.next {s : Sem Value} (h : Does P j B0 s ρ w hp u) : DoesN P j B0 (do pure (.value (← s))) ρ w hp u := by
  obtain ⟨x, w', ρ', hr, d⟩ := h
  exact ⟨_, x, w', ρ', by simp only [Sem.run_bind, hr, Result.andThen_ok, Sem.run_pure], .inl rfl, d⟩
theorem DoesU.next {s : Sem Unit} (h : DoesU P j B0 s ρ w hp u) : DoesN P j B0 (do s; pure .skip) ρ w hp u := by
  obtain ⟨w', ρ', hr, d⟩ := h
  exact ⟨_, undef, w', ρ', by simp only [Sem.run_bind, hr, Result.andThen_ok, Sem.run_pure], .inr ⟨rfl, rfl⟩, d⟩
theorem does_read {s : Sem Value} (hr : HR P ρ j B0 hp w.heap) (h : h' = hp ∧ u ≠ top ∧ ∃ z, s.run P w = .ok z w ∧ VR ρ j u z) : Does P j B0 s ρ w h' u := by
  obtain ⟨rfl, hn, z, hz, hv⟩ := h
  exact ⟨z, w, ρ, hz, .same hr hv hn⟩
theorem biK_m {b : Builtin} {ts : List TypeId} {f : Operand → E} {rv : Operand → Value} {l : List Operand} {q : Env → List AV → Hp → Rs} {ty : TypeId} {cs : Array Bool} (hT : Told ρ j f rv env loc) (h : biK P b ts (l.map f) = .act (.m q)) (hr : HR P ρ j B0 hp w.heap)
    (e : q env loc hp = .ok u h') : DoesN P j B0 (builtin b ts.toArray ty cs (l.map rv).toArray) ρ w h' u := by
  have one : ∀ {x : E}, l.map f = [x] → ∃ o, l = [o] ∧ x = f o := by
    intro x hl
    cases l with
    | nil => cases hl
    | cons a r => cases r with
      | nil => injection hl with hl _; exact ⟨a, rfl, hl.symm⟩
      | cons b r => cases hl
  have two : ∀ {x y : E}, l.map f = [x, y] → ∃ o p, l = [o, p] ∧ x = f o ∧ y = f p := by
    intro x y hl
    cases l with
    | nil => cases hl
    | cons a r => cases r with
      | nil => cases hl
      | cons b r => cases r with
        | nil => injection hl with h1 hl; injection hl with h2 _; exact ⟨a, b, rfl, h1.symm, h2.symm⟩
        | cons c r => cases hl
  generalize hts : ts = ts0 at h
  generalize has : l.map f = as at h
  unfold biK at h
  split at h
  · rename_i x t
    obtain ⟨o, rfl, rfl⟩ := one has
    subst hts
    cases hu : undT P t <;> rw [hu] at h <;> first | (cases h; done) | skip
    injection h with h; injection h with h; subst h
    exact (does_read hr (aLen_ok (und_of hu (by intro h; cases h)) hr (hT o) e)).next
  · rename_i s x st xt
    obtain ⟨o, p, rfl, rfl, rfl⟩ := two has
    subst hts
    have h : appK P st xt (f o) (f p) = .act (.m q) := h
    unfold appK at h
    cases hu : undT P st <;> rw [hu] at h <;> first | (cases h; done) | skip
    rename_i e'
    obtain ⟨hc, h⟩ := onB_act h
    injection h with h; injection h with h; subst h
    obtain ⟨hz, hk⟩ := andOf hc
    obtain ⟨i, z, hi, _⟩ := zOK_inv hz
    rw [szOf_eq hi] at hk
    have e : aApp e' (szOf P e') (modeOf (undT P xt)) (zeroCs P e') (ev (f o) env loc) (ev (f p) env loc) hp = .ok u h' := e
    rw [szOf_eq hi] at e
    have hD : P.underlying xt = some (undT P xt) := und_of rfl (by intro h; rw [h] at hk; cases hk)
    exact (aApp_ok (ty := ty) (und_of hu (by intro h; cases h)) hz hi hD hk hr (hT o) (hT p) e).next
  · rename_i d s dt st
    obtain ⟨o, p, rfl, rfl, rfl⟩ := two has
    subst hts
    cases hu : undT P dt <;> rw [hu] at h <;> first | (cases h; done) | skip
    rename_i e'
    cases hv : undT P st <;> rw [hv] at h <;> first | (cases h; done) | skip
    obtain ⟨hc, h⟩ := onB_act h
    injection h with h; injection h with h; subst h
    obtain ⟨i, hi⟩ := infB_inv hc
    have e : aCopy (szOf P e') (ev (f o) env loc) (ev (f p) env loc) hp = .ok u h' := e
    rw [szOf_eq hi] at e
    exact (aCopy_ok (st := st) (ty := ty) (und_of hu (by intro h; cases h)) hi hr (hT o) (hT p) e).next
  · rename_i s st
    obtain ⟨o, rfl, rfl⟩ := one has
    subst hts
    cases hu : undT P st <;> rw [hu] at h <;> first | (cases h; done) | skip
    rename_i e'
    obtain ⟨hz, h⟩ := onB_act h
    injection h with h; injection h with h; subst h
    exact (aClr_ok (ty := ty) (und_of hu (by intro h; cases h)) hz hr (hT o) e).next
  · rename_i x y t t2
    cases hu : undT P t <;> rw [hu] at h <;> cases h
  · rename_i x y t t2
    cases hu : undT P t <;> rw [hu] at h <;> cases h
  · injection h with h; cases h
  · injection h with h; cases h
theorem trO_m (hX : XS P X) {f : Operand → E} {rv : Operand → Value} {o : Oper} {q : Env → List AV → Hp → Rs} (hT : Told ρ j f rv env loc) (h : trO P X f o.op = .act (.m q)) (hr : HR P ρ j B0 hp w.heap) (e : q env loc hp = .ok u h') :
    DoesN P j B0 (execOp rv o) ρ w h' u := by
  obtain ⟨dst, op, ty, pos, after, guard⟩ := o
  have h : trO P X f op = .act (.m q) := h
  show DoesN P j B0 (execOp rv ⟨dst, op, ty, pos, after, guard⟩) ρ w h' u
  have onBp : ∀ {b : Bool} {x : E} {w : Nat} {q : Env → List AV → Hp → Rs}, onB b (.pure x) (badK w) ≠ .act (.m q) := by
    intro b x w q h; cases b <;> cases h
  cases op with
  | alloc t =>
    obtain ⟨hc, h⟩ := onB_act h
    injection h with h; injection h with h; subst h
    obtain ⟨hz, hl⟩ := andOf hc
    obtain ⟨i, z, hi, hiz, hzr, hzv⟩ := hasZ_inv hz
    rw [beq_eq, decide_eq_true_eq, lenA_eq] at hl
    obtain ⟨a1, a2⟩ := aNew_ok (ρ := ρ) (j := j) (w := w) hzr (zeroCs_ok hzv) hl e (.tuple #[])
    exact (a2.does hr (a1.symm.trans e)).next
  | box t x =>
    injection h with h; injection h with h; subst h
    obtain ⟨a1, a2⟩ := aBox_ok (P := P) (w := w) (hT x) e
    exact (a2.does hr (a1.symm.trans e)).next
  | buildSlice t n ps =>
    have h : bslK P t n (idx1 ps.toList) (argsP f ps.toList) = .act (.m q) := h
    unfold bslK at h
    cases hu : undT P t <;> rw [hu] at h <;> first | (cases h; done) | skip
    rename_i e'
    obtain ⟨hc, h⟩ := onB_act h
    injection h with h; injection h with h; subst h
    obtain ⟨h1, hc⟩ := andOf hc
    obtain ⟨h2, h3⟩ := andOf hc
    rw [ble_eq, decide_eq_true_eq] at h1
    have e : aBsl e' (szOf P e') n (zeroCs P e') (idx1 ps.toList) (ev (argsP f ps.toList) env loc) hp = .ok u h' := e
    rw [ev_argsP] at e
    have hv : VRs ρ j (ps.toList.map fun x => ev (f x.2) env loc) (ps.toList.map fun x => rv x.2) := by
      have := hT.list (ps.toList.map (·.2))
      rw [List.map_map, List.map_map] at this; exact this
    have hm := aBsl_ok (P := P) (w := w) (und_of hu (by intro h; cases h)) h2 h1 h3 hv (by rw [idx1_eq]; simp) e
    have e1 : ((idx1 ps.toList).zip (ps.toList.map fun x => rv x.2)).toArray = ps.map fun (i, x) => (i, rv x) := by
      apply Array.ext'
      rw [idx1_eq, Array.toList_map]
      have : ∀ l : List (Nat × Operand), (l.map (·.1)).zip (l.map fun x => rv x.2) = l.map fun (i, x) => (i, rv x) := by
        intro l
        induction l with
        | nil => rfl
        | cons p l ih => rw [List.map_cons, List.map_cons, List.zip_cons_cons, ih, List.map_cons]
      exact this ps.toList
    rw [e1] at hm
    exact (hm.does e hr).next
  | load t x =>
    obtain ⟨hc, h⟩ := onB_act h
    injection h with h; injection h with h; subst h
    have hD := vldB_inv hc
    obtain ⟨i, hi⟩ := info_of hD
    have e : aLoad (isAggD (undT P t)) (szOf P t) (ev (f x) env loc) hp = .ok u h' := e
    rw [szOf_eq hi] at e
    exact (does_read hr (aLoad_ok hD hi (hT x) hr e)).next
  | store t x v =>
    obtain ⟨hc, h⟩ := onB_act h
    injection h with h; injection h with h; subst h
    obtain ⟨i, hi⟩ := infB_inv hc
    have e : aStore (szOf P t) (ev (f x) env loc) (ev (f v) env loc) hp = .ok u h' := e
    rw [szOf_eq hi] at e
    exact (aStore_ok hi (hT x) (hT v) hr e).next
  | insert t m k v =>
    simp only [trO, upK] at h
    cases hu : undT P t <;> rw [hu] at h <;> first | (cases h; done) | skip
    rename_i k' e'
    cases hk : keyT P X k' with
    | none => simp only [hk] at h; cases h
    | some ks =>
      simp only [hk] at h
      injection h with h; injection h with h; subst h
      exact (aUpd_ok hX.st (und_of hu (by intro h; cases h)) hk hr (hT m) (hT k) (hT v) e).next
  | mapUpdate t m k v =>
    simp only [trO, upK] at h
    cases hu : undT P t <;> rw [hu] at h <;> first | (cases h; done) | skip
    rename_i k' e'
    cases hk : keyT P X k' with
    | none => simp only [hk] at h; cases h
    | some ks =>
      simp only [hk] at h
      injection h with h; injection h with h; subst h
      exact (aUpd_ok hX.st (und_of hu (by intro h; cases h)) hk hr (hT m) (hT k) (hT v) e).next
  | lookup t x y ok =>
    simp only [trO, lkK] at h
    cases hu : undT P t <;> rw [hu] at h <;> first | (cases h; done) | skip
    rename_i k' e'
    cases hk : keyT P X k' with
    | none => simp only [hk] at h; cases h
    | some ks =>
      simp only [hk] at h
      obtain ⟨hz, h⟩ := onB_act h
      injection h with h; injection h with h; subst h
      exact (does_read hr (aLkp_ok hX.st (und_of hu (by intro h; cases h)) hk hz hr (hT x) (hT y) e)).next
  | makeMap t r =>
    cases r with
    | some r => cases h
    | none =>
      injection h with h; injection h with h; subst h
      exact (aMap_ok hr e).next
  | makeSlice t l c =>
    have h : mksK P t (f l) (f c) = .act (.m q) := h
    unfold mksK at h
    cases hu : undT P t <;> rw [hu] at h <;> first | (cases h; done) | skip
    rename_i e'
    obtain ⟨hz, h⟩ := onB_act h
    injection h with h; injection h with h; subst h
    exact ((aMks_ok (P := P) (w := w) (und_of hu (by intro h; cases h)) hz (hT l) (hT c) e).does e hr).next
  | convert s d x =>
    simp only [trO, cvK] at h
    cases hs : undT P s <;> rw [hs] at h <;> cases hd : undT P d <;> rw [hd] at h <;> first | (cases h; done) | skip
    · rename_i e'
      cases he : undT P e' <;> simp only [he] at h <;> first | (cases h; done) | skip
      rename_i k
      cases k <;> first | (cases h; done) | skip
      injection h with h; injection h with h; subst h
      have hD1 := und_of hs (by intro h; cases h)
      have hD2 := und_of hd (by intro h; cases h)
      have hD3 := und_of he (by intro h; cases h)
      obtain ⟨bs, hb, hm⟩ := aS2b_ok (P := P) (ρ := ρ) (w := w) (hT x) e
      have := hm.does e hr
      obtain ⟨z, w', ρ', hrun, dd⟩ := this
      refine Does.next (s := convert s d (rv x)) ⟨z, w', ρ', ?_, dd⟩
      rw [hb]
      simp only [convert, Sem.run_bind, und_run hD1, und_run hD2, und_run hD3, Result.andThen_ok]
      exact hrun
    · rename_i e'
      cases he : undT P e' <;> simp only [he] at h <;> first | (cases h; done) | skip
      rename_i k
      cases k <;> first | (cases h; done) | skip
      injection h with h; injection h with h; subst h
      have hD1 := und_of hs (by intro h; cases h)
      have hD2 := und_of hd (by intro h; cases h)
      have hD3 := und_of he (by intro h; cases h)
      obtain ⟨a1, a2, z, hz, hv⟩ := aB2s_ok (P := P) hr (hT x) e
      refine (does_read (s := convert s d (rv x)) hr ⟨a1, a2, z, ?_, hv⟩).next
      have hsl : ∃ A l c, rv x = .slice A l c := by
        cases hq : rv x with
        | slice A l c => exact ⟨A, l, c, rfl⟩
        | _ => rw [hq] at hz; simp [Conv.bytesToString] at hz
      obtain ⟨A, l, c, hq⟩ := hsl
      rw [hq] at hz ⊢
      simp only [convert, Sem.run_bind, und_run hD1, und_run hD2, und_run hD3, Result.andThen_ok]
      exact hz
    · rename_i e1 e2
      cases hb : Nat.beq s d <;> cases he : undT P e1 <;> simp only [hb, he] at h <;> first | (cases h; done) | skip
      rename_i k
      cases k <;> first | (cases h; done) | skip
      injection h with h; injection h with h; subst h
      have hsd : s = d := Nat.eq_of_beq_eq_true hb
      subst hsd
      have hD1 := und_of hs (by intro h; cases h)
      have hD3 := und_of he (by intro h; cases h)
      obtain ⟨a, l, c, hq, dd⟩ := aSame_ok (P := P) hr (hT x) e
      obtain ⟨z, w', ρ', hrun, dd⟩ := dd
      refine Does.next (s := convert s s (rv x)) ⟨z, w', ρ', ?_, dd⟩
      rw [hs] at hd
      injection hd with hd
      subst hd
      rw [hq] at hrun ⊢
      simp only [convert, Sem.run_bind, und_run hD1, und_run hD3, Result.andThen_ok, beq_self_eq_true]
      simpa [Sem.run_bind] using hrun
  | call c =>
    simp only [trO, callK] at h
    cases hc : c.callee with
    | value g =>
      rw [hc] at h
      cases g with
      | func g =>
        simp only at h
        cases hx : extOf g X with
        | none => rw [hx] at h; injection h with h; cases h
        | some k =>
          rw [hx] at h
          cases k with
          | st => injection h with h; cases h
          | ixByte =>
            simp only at h
            split at h
            · cases h
            · injection h with h; cases h
      | _ => injection h with h; cases h
    | builtin b =>
      rw [hc] at h
      have := biK_m (ty := ty) (cs := c.args.map fun | .const _ => true | _ => false) hT h hr e
      obtain ⟨nx, x, w', ρ', hrun, hnx, d⟩ := this
      refine ⟨nx, x, w', ρ', ?_, hnx, d⟩
      simp only [execOp, resolve, hc, Sem.run_bind, Sem.run_pure, Result.andThen_ok, invoke]
      have e1 : (c.args.toList.map rv).toArray = c.args.map rv := by apply Array.ext'; simp
      rw [e1, Array.toArray_toList] at hrun
      exact hrun
    | invoke r m => rw [hc] at h; injection h with h; cases h
  | defer c =>
    simp only [trO] at h
    cases hc : c.callee <;> rw [hc] at h <;> injection h with h <;> cases h
  | move x => cases h
  | assign x => cases h
  | pick c a b => cases h
  | build t ps => exact absurd h onBp
  | nilCheck x => cases h
  | binOp op t x y yt =>
    have h : binK P X (orBn (isC x) (isC y)) op t (f x) (f y) = .act (.m q) := h
    unfold binK at h
    cases hu : undT P t <;> rw [hu] at h <;> first | (injection h with h; cases h; done) | skip
    all_goals (first | (cases op <;> first | (cases h; done) | (injection h with h; cases h; done) | skip) | skip)
    all_goals (first | (cases hk : keyT P X t <;> simp only [hk] at h <;> first | (cases h; done) | (injection h with h; cases h; done)) | skip)
    all_goals (cases hc : orBn (isC x) (isC y) <;> simp only [hc] at h <;> first | (cases h; done) | (injection h with h; cases h; done))
  | unOp op t x =>
    simp only [trO] at h
    cases op <;> cases hu : undT P t <;> simp only [unK, hu] at h <;> first | (cases h; done) | (injection h with h; cases h; done)
  | makeInterface t x => exact absurd h onBp
  | makeFunc fn a b =>
    simp only [trO, mkfK] at h
    cases fn <;> first | (cases h; done) | (injection h with h; cases h; done)
  | slice t x lo hi mx =>
    simp only [trO, slK] at h
    cases hu : undT P t <;> rw [hu] at h <;> first | (injection h with h; cases h; done) | skip
    · cases hn : isN mx <;> rw [hn] at h <;> first | (cases h; done) | (injection h with h; cases h; done)
    · cases hn : mxOk hi mx <;> rw [hn] at h
      · injection h with h; cases h
      · exact absurd h onBp
    · cases hn : isN mx <;> rw [hn] at h
      · injection h with h; cases h
      · exact absurd h onBp
  | fieldAddr t x k =>
    simp only [trO, fadK] at h
    cases hf : fldOf P t k with
    | none => rw [hf] at h; injection h with h; cases h
    | some fd => rw [hf] at h; simp only at h; cases hz : szOf P fd.type <;> rw [hz] at h <;> first | (cases h; done) | (injection h with h; cases h; done)
  | field t x k =>
    simp only [trO, fldK] at h
    cases hf : fldOf P t k with
    | none => rw [hf] at h; injection h with h; cases h
    | some fd => rw [hf] at h; exact absurd h onBp
  | indexAddr t x y =>
    simp only [trO, iadK] at h
    cases hu : undT P t <;> rw [hu] at h <;> first | (injection h with h; cases h; done) | exact absurd h onBp
  | index t x y =>
    simp only [trO, ixK] at h
    cases hu : undT P t <;> rw [hu] at h <;> first | (cases h; done) | (injection h with h; cases h; done) | exact absurd h onBp
  | typeAssert x xt t ok => exact absurd (show onB (andB (cncB P t) (hasZ P t)) (.pure (.u (tas t (zeroV P t) ok) (f x))) (badK 18) = .act (.m q) from h) onBp
  | extract x k => cases h
  | _ => injection h with h; cases h
end
end Go.Ev
end
section
namespace Go.Ev
open Go
abbrev MAct := _root_.Go.Act
section
variable {P : Program} {ρ ρ' : Rho} {j B0 : Nat} {X : Exts} {Ms : List Nat} {env : Env} {loc : List AV} {w : World} {hp h' : Hp} {u : AV}
def GlobR (ρ : Rho) : Prop := ∀ g, g < 2 → ρ (Ps.ofNat g) 0 = some (g, 0)
theorem GlobR.mono (h : GlobR ρ) (le : ρ.le ρ') : GlobR ρ' := fun g hg => le.get (h g hg)
def Flat (env : Env) (e : E) : Prop := ∀ l l', ev e env l = ev e env l'
structure CxR (ρ : Rho) (j : Nat) (Ms : List Nat) (env : Env) (loc : List AV) (cx : Cx) (n : Nat) (tmps : Array Value) : Prop where
  len : n = loc.length
  told : ∀ t, VR ρ j (ev (tmpE false Ms cx n t) env loc) (tmps.getD t undef)
  refs : ∀ t r, cxFind t cx = some r → match r with | .l d => d < n | .s e => Flat env e ∧ ∀ k, e ≠ .loc k
theorem slotT_flat (t : Nat) : Flat env (slotT Ms t) ∧ ∀ k, slotT Ms t ≠ .loc k := by
  unfold slotT
  cases ixOf t Ms 0 with
  | none => exact ⟨fun _ _ => rfl, fun k h => by cases h⟩
  | some k => exact ⟨fun l l' => by rw [ev_slot, ev_slot], fun k h => by cases h⟩
theorem constE_flat' (v : AV) : Flat env (constE v) ∧ ∀ k, constE v ≠ .loc k := by
  refine ⟨fun l l' => by rw [constE_flat, constE_flat], fun k h => ?_⟩
  have natK_eq : ∀ {R : Type} (n : Nat) (f : Nat → R), natK n f = f n := fun n f => by cases n <;> rfl
  cases v with
  | i a b =>
    have E : constE (.i a b) = natK a (fun k => natK b (fun u => .c (.i k u))) := rfl
    rw [E, natK_eq, natK_eq] at h; cases h
  | b c => cases c <;> cases h
  | s l c =>
    have E : constE (.s l c) = natK l (fun l => natK c (fun c => .c (.s l c))) := rfl
    rw [E, natK_eq, natK_eq] at h; cases h
  | z w =>
    have E : constE (.z w) = natK w (fun w => .c (.z w)) := rfl
    rw [E, natK_eq] at h; cases h
  | _ => cases h
theorem glbE_flat (g : Nat) : Flat env (glbE g) ∧ ∀ k, glbE g ≠ .loc k := by
  unfold glbE
  cases Nat.ble (Nat.succ g) 2 with
  | true => exact ⟨fun _ _ => rfl, fun k h => by cases h⟩
  | false => exact ⟨fun _ _ => rfl, fun k h => by cases h⟩
theorem opnd_shape {cx : Cx} {n : Nat} {tmps : Array Value} (h : CxR ρ j Ms env loc cx n tmps) (x : Operand) : (∃ k, k < n ∧ opnd false Ms cx n x = .loc k) ∨ (Flat env (opnd false Ms cx n x) ∧ ∀ k, opnd false Ms cx n x ≠ .loc k) := by
  cases x with
  | tmp t =>
    have E : opnd false Ms cx n (.tmp t) = tmpE false Ms cx n t := rfl
    rw [E]
    unfold tmpE
    cases hf : cxFind t cx with
    | none => exact .inr (slotT_flat t)
    | some r =>
      have := h.refs t r hf
      cases r with
      | l d => exact .inl ⟨n - (d + 1), by have : d < n := this; omega, rfl⟩
      | s e => exact .inr this
  | const v => exact .inr (constE_flat' _)
  | global g => exact .inr (glbE_flat g)
  | func f => exact .inr ⟨fun _ _ => rfl, fun k h => by cases h⟩
theorem CxR.toldAll {cx : Cx} {n : Nat} {a : MAct} (h : CxR ρ j Ms env loc cx n a.tmps) (hg : GlobR ρ) : Told ρ j (opnd false Ms cx n) a.eval env loc := by
  intro x
  cases x with
  | tmp t => exact h.told t
  | const v =>
    show VR ρ j (ev (constE (cvt 5 v)) env loc) v
    rw [constE_flat]; exact cvt_ok 5 v
  | global g =>
    show VR ρ j (ev (glbE g) env loc) (.pointer (some ⟨g, 0, none⟩))
    unfold glbE
    cases hq : Nat.ble (Nat.succ g) 2 with
    | true =>
      have : g < 2 := Nat.le_of_ble_eq_true hq
      exact VR.p (f := 0) (hg g this)
    | false => exact .top _
  | func f =>
    have := VR.fn (ρ := ρ) (j := j) (f := f) (vs := []) (a := #[]) (c := #[]) .nil
    exact this
theorem CxR.start {tmps : Array Value} (h : TR ρ j Ms env tmps) : CxR ρ j Ms env [] [] 0 tmps := by
  refine ⟨rfl, fun t => ?_, fun t r h => by cases h⟩
  show VR ρ j (ev (slotT Ms t) env []) _
  unfold slotT
  cases hk : ixOf t Ms 0 with
  | none => exact .top _
  | some k => rw [ev_slot]; exact h t k hk
theorem getD_set {tmps : Array Value} {d t : Nat} {x : Value} (hd : d < tmps.size) : (tmps.setIfInBounds d x).getD t undef = if d = t then x else tmps.getD t undef := by
  simp only [Array.getD_eq_getD_getElem?, Array.getElem?_setIfInBounds]
  by_cases h : d = t
  · subst h; simp [hd]
  · simp [h]
theorem cxFind_cons (t u : Nat) (r : Rf) (cx : Cx) : cxFind t ((u, r) :: cx) = if u = t then some r else cxFind t cx := by
  show (match Nat.beq u t with | true => some r | false => cxFind t cx) = _
  rw [beq_eq]
  by_cases h : u = t <;> simp [h]
theorem CxR.push {cx : Cx} {n : Nat} {a : MAct} {v : AV} {x : Value} {dst : Option Nat} (h : CxR ρ j Ms env loc cx n a.tmps) (hd : ∀ d, dst = some d → d < a.tmps.size) (hv : VR ρ j v x) : CxR ρ j Ms env (v :: loc) (cxAdd dst (.l n) cx) (n + 1) (a.put dst x).tmps := by
  have old : ∀ t, ev (tmpE false Ms cx (n + 1) t) env (v :: loc) = ev (tmpE false Ms cx n t) env loc := by
    intro t
    unfold tmpE
    cases hf : cxFind t cx with
    | none => exact (slotT_flat t).1 _ _
    | some r =>
      have := h.refs t r hf
      cases r with
      | l d =>
        have hdn : d < n := this
        show nthA (n + 1 - (d + 1)) (v :: loc) = nthA (n - (d + 1)) loc
        rw [show n + 1 - (d + 1) = (n - (d + 1)) + 1 by omega]; rfl
      | s e => exact this.1 _ _
  cases dst with
  | none =>
    refine ⟨by rw [h.len]; rfl, fun t => ?_, fun t r hf => ?_⟩
    · show VR ρ j (ev (tmpE false Ms cx (n + 1) t) env (v :: loc)) _
      rw [old]; exact h.told t
    · have := h.refs t r hf
      cases r with
      | l d => have : d < n := this; show d < n + 1; omega
      | s e => exact this
  | some d =>
    refine ⟨by rw [h.len]; rfl, fun t => ?_, fun t r hf => ?_⟩
    · show VR ρ j (ev (tmpE false Ms ((d, .l n) :: cx) (n + 1) t) env (v :: loc)) ((a.tmps.setIfInBounds d x).getD t undef)
      rw [getD_set (hd d rfl)]
      by_cases hdt : d = t
      · rw [if_pos hdt]
        have : tmpE false Ms ((d, .l n) :: cx) (n + 1) t = .loc (n + 1 - (n + 1)) := by
          unfold tmpE; rw [cxFind_cons, if_pos hdt]; rfl
        rw [this, Nat.sub_self]; exact hv
      · rw [if_neg hdt]
        have : tmpE false Ms ((d, .l n) :: cx) (n + 1) t = tmpE false Ms cx (n + 1) t := by
          unfold tmpE; rw [cxFind_cons, if_neg hdt]
        rw [this, old]; exact h.told t
    · have hf : cxFind t ((d, .l n) :: cx) = some r := hf
      rw [cxFind_cons] at hf
      by_cases hdt : d = t
      · rw [if_pos hdt] at hf; injection hf with hf; subst hf; show n < n + 1; omega
      · rw [if_neg hdt] at hf
        have := h.refs t r hf
        cases r with
        | l d => have : d < n := this; show d < n + 1; omega
        | s e => exact this
theorem CxR.alias {cx : Cx} {n : Nat} {a : MAct} {y : Operand} {dst : Option Nat} (h : CxR ρ j Ms env loc cx n a.tmps) (hg : GlobR ρ) (hd : ∀ d, dst = some d → d < a.tmps.size) :
    CxR ρ j Ms env loc (cxAdd dst (rfBack false n (opnd false Ms cx n y)) cx) n (a.put dst (a.eval y)).tmps := by
  have back : rfE false n (rfBack false n (opnd false Ms cx n y)) = opnd false Ms cx n y ∧ (match rfBack false n (opnd false Ms cx n y) with | .l d => d < n | .s e => Flat env e ∧ ∀ k, e ≠ .loc k) := by
    rcases opnd_shape h y with ⟨k, hk, e⟩ | ⟨h1, h2⟩
    · rw [e]
      refine ⟨?_, ?_⟩
      · show E.loc (n - (n - (k + 1) + 1)) = .loc k
        congr 1; omega
      · show n - (k + 1) < n; omega
    · cases hq : opnd false Ms cx n y with
      | loc k => exact absurd hq (h2 k)
      | _ => rw [hq] at h1 h2; exact ⟨rfl, h1, h2⟩
  cases dst with
  | none => exact h
  | some d =>
    refine ⟨h.len, fun t => ?_, fun t r hf => ?_⟩
    · show VR ρ j (ev (tmpE false Ms ((d, rfBack false n (opnd false Ms cx n y)) :: cx) n t) env loc) ((a.tmps.setIfInBounds d (a.eval y)).getD t undef)
      rw [getD_set (hd d rfl)]
      by_cases hdt : d = t
      · rw [if_pos hdt]
        have : tmpE false Ms ((d, rfBack false n (opnd false Ms cx n y)) :: cx) n t = opnd false Ms cx n y := by
          unfold tmpE; rw [cxFind_cons, if_pos hdt]; exact back.1
        rw [this]; exact h.toldAll hg y
      · rw [if_neg hdt]
        have : tmpE false Ms ((d, rfBack false n (opnd false Ms cx n y)) :: cx) n t = tmpE false Ms cx n t := by
          unfold tmpE; rw [cxFind_cons, if_neg hdt]
        rw [this]; exact h.told t
    · have hf : cxFind t ((d, rfBack false n (opnd false Ms cx n y)) :: cx) = some r := hf
      rw [cxFind_cons] at hf
      by_cases hdt : d = t
      · rw [if_pos hdt] at hf; injection hf with hf; rw [← hf]; exact back.2
      · rw [if_neg hdt] at hf; exact h.refs t r hf
theorem CxR.mono {cx : Cx} {n : Nat} {tmps : Array Value} (h : CxR ρ j Ms env loc cx n tmps) (le : ρ.le ρ') : CxR ρ' j Ms env loc cx n tmps := ⟨h.len, fun t => (h.told t).mono le, h.refs⟩
theorem ixOf_get : ∀ (Ms : List Nat) (t k q : Nat), ixOf t Ms q = some k → q ≤ k ∧ Ms[k - q]? = some t
  | [], _, _, _, h => by cases h
  | x :: l, t, k, q, h => by
    have h : (match Nat.beq x t with | true => some q | false => ixOf t l (q + 1)) = some k := h
    rw [beq_eq] at h
    by_cases hx : x = t
    · subst hx
      simp at h
      subst h
      exact ⟨Nat.le_refl _, by rw [Nat.sub_self]; rfl⟩
    · simp [hx] at h
      obtain ⟨h1, h2⟩ := ixOf_get l t k (q + 1) h
      refine ⟨by omega, ?_⟩
      rw [show k - q = (k - (q + 1)) + 1 by omega]; exact h2
theorem ixOf_inj {t u k : Nat} (h : ixOf t Ms 0 = some k) (h' : ixOf u Ms 0 = some k) : t = u := by
  have h1 := (ixOf_get Ms t k 0 h).2
  have h2 := (ixOf_get Ms u k 0 h').2
  rw [h1] at h2; injection h2
theorem ixOf_lt {t k : Nat} (h : ixOf t Ms 0 = some k) : k < Ms.length := by
  have := (ixOf_get Ms t k 0 h).2
  have := (List.getElem?_eq_some_iff.1 this).1
  omega
theorem testBit_set (s t u : Nat) : Nat.testBit (Nat.lor s (Nat.shiftLeft 1 u)) t = (Nat.testBit s t || decide (u = t)) := by
  have e : Nat.lor s (Nat.shiftLeft 1 u) = s ||| (1 <<< u) := rfl
  rw [e, Nat.testBit_or, Nat.one_shiftLeft, Nat.testBit_two_pow]
theorem outs_get (hM : Ms.length ≤ 64) (n : Nat) : ∀ (cx : Cx) (seen : Nat) (e : Env) (t k : Nat), ixOf t Ms 0 = some k →
    sget k (doOuts (outsOf Ms n cx seen) env loc e) = if Nat.testBit seen t then sget k e else match cxFind t cx with | some r => ev (rfE false n r) env loc | none => sget k e
  | [], seen, e, t, k, h => by
    show sget k e = if Nat.testBit seen t then sget k e else sget k e
    cases Nat.testBit seen t <;> rfl
  | (u, r) :: cx, seen, e, t, k, h => by
    have hk := ixOf_lt h
    have E : outsOf Ms n ((u, r) :: cx) seen = (match Nat.testBit seen u with
      | true => outsOf Ms n cx seen
      | false => (match ixOf u Ms 0 with
        | some k => .mk (gx (N8 AV) (Nat.div k 8)) (gx AV (Nat.mod k 8)) (rfE false n r) :: outsOf Ms n cx (Nat.lor seen (Nat.shiftLeft 1 u))
        | none => outsOf Ms n cx (Nat.lor seen (Nat.shiftLeft 1 u)))) := rfl
    rw [E, cxFind_cons]
    cases hs : Nat.testBit seen u with
    | true =>
      simp only
      rw [outs_get hM n cx seen e t k h]
      by_cases hut : u = t
      · subst hut; rw [hs]; rfl
      · rw [if_neg hut]
    | false =>
      simp only
      cases hi : ixOf u Ms 0 with
      | none =>
        simp only
        rw [outs_get hM n cx _ e t k h, testBit_set]
        have hut : u ≠ t := fun e => by rw [e, h] at hi; cases hi
        simp [hut]
      | some k' =>
        simp only
        have hk' := ixOf_lt hi
        have E2 : ∀ l, doOuts (.mk (gx (N8 AV) (Nat.div k' 8)) (gx AV (Nat.mod k' 8)) (rfE false n r) :: l) env loc e = doOuts l env loc (setS k' (ev (rfE false n r) env loc) e) := fun _ => rfl
        rw [E2, outs_get hM n cx _ _ t k h, testBit_set, sget_setS (by omega) (by omega)]
        by_cases hut : u = t
        · subst hut
          rw [hi] at h; injection h with h; subst h
          simp [hs]
        · have : k ≠ k' := fun e => hut (by subst e; exact ixOf_inj hi h)
          simp [hut, this]
theorem CxR.outs {cx : Cx} {n : Nat} {tmps : Array Value} (h : CxR ρ j Ms env loc cx n tmps) (hM : Ms.length ≤ 64) : TR ρ j Ms (doOuts (outsOf Ms n cx 0) env loc env) tmps := by
  intro t k hk
  rw [outs_get hM n cx 0 env t k hk]
  have := h.told t
  unfold tmpE at this
  cases hf : cxFind t cx with
  | some r => rw [hf] at this; simpa using this
  | none =>
    rw [hf] at this
    have E : slotT Ms t = slotE k := by unfold slotT; rw [hk]
    simp only at this
    rw [E, ev_slot] at this
    simpa using this
end
end Go.Ev
end
section
namespace Go.Ev
open Go
section
variable {ops : Array Oper}
inductive Lin (ops : Array Oper) : (Nat → Bool) → List Nat → Prop
  | done {E : Nat → Bool} (h : ∀ i, i < ops.size → E i = true) : Lin ops E []
  | op {E : Nat → Bool} {i : Nat} {il : List Nat} {o : Oper} (ho : ops[i]? = some o) (hn : E i = false) (hb : ∀ e ∈ o.after.toList, Region.binds .any e = true → E e.on = true) (h : Lin ops (fun q => E q || decide (q = i)) il) : Lin ops E (i :: il)
def BackE (ops : Array Oper) : Prop := ∀ i o, ops[i]? = some o → ∀ e ∈ o.after.toList, Region.binds .any e = true → e.on < i
theorem ready_mem {listed : Array Bool} {i : Nat} : i ∈ Region.ready .any ops listed ↔ i < ops.size ∧ listed.getD i true = false ∧ ∃ o, ops[i]? = some o ∧ ∀ e ∈ o.after.toList, Region.binds .any e = true → listed.getD e.on false = true := by
  unfold Region.ready
  rw [List.mem_filter, List.mem_range]
  constructor
  · rintro ⟨h1, h2⟩
    simp only [Bool.and_eq_true, Bool.not_eq_true'] at h2
    refine ⟨h1, h2.1, ops[i], Array.getElem?_eq_getElem h1, fun e he hb => ?_⟩
    have h3 := h2.2
    rw [Array.getElem?_eq_getElem h1] at h3
    simp only [Option.map_some, Option.getD_some, Array.all_eq_true_iff_forall_mem] at h3
    have := h3 e (by simpa using he)
    simpa [hb] using this
  · rintro ⟨h1, h2, o, h3, h4⟩
    refine ⟨h1, ?_⟩
    simp only [Bool.and_eq_true, Bool.not_eq_true']
    refine ⟨h2, ?_⟩
    rw [h3]
    simp only [Option.map_some, Option.getD_some, Array.all_eq_true_iff_forall_mem]
    intro e he
    cases hb : Region.binds .any e with
    | false => rfl
    | true => simpa using h4 e (by simpa using he) hb
theorem ready_some (hB : BackE ops) {listed : Array Bool} (hs : listed.size = ops.size) (h : Region.ready .any ops listed = []) : ∀ i, i < ops.size → listed.getD i false = true := by
  intro i
  induction i using Nat.strongRecOn with
  | _ i ih =>
    intro hi
    cases hl : listed.getD i false with
    | true => rfl
    | false =>
      have : i ∈ Region.ready .any ops listed := by
        rw [ready_mem]
        refine ⟨hi, ?_, ops[i], Array.getElem?_eq_getElem hi, fun e he hb => ?_⟩
        · rw [Array.getD_eq_getD_getElem?, Array.getElem?_eq_getElem (by omega)] at hl ⊢; exact hl
        · have hlt := hB i _ (Array.getElem?_eq_getElem hi) e he hb
          exact ih _ hlt (by omega)
      rw [h] at this; cases this
theorem lin_go (hB : BackE ops) : ∀ (fuel t : Nat) (listed : Array Bool), listed.size = ops.size → listed.toList.count false ≤ fuel → Lin ops (fun q => listed.getD q false) (Region.linearise.go .any ops fuel t listed [])
  | 0, t, listed, hs, hc => by
    have h0 : listed.toList.count false = 0 := by omega
    rw [List.count_eq_zero] at h0
    refine .done fun i hi => ?_
    show listed.getD i false = true
    rw [Array.getD_eq_getD_getElem?, Array.getElem?_eq_getElem (by omega)]
    cases hq : listed[i]'(by omega) with
    | true => rfl
    | false => exact absurd (by rw [← hq]; simp) h0
  | fuel + 1, t, listed, hs, hc => by
    simp only [Region.linearise.go]
    change Lin ops _ (match (Region.ready .any ops listed)[t % (Region.ready .any ops listed).length]? with
      | some i => Region.linearise.go .any ops fuel (t / (Region.ready .any ops listed).length) (listed.setIfInBounds i true) [i]
      | none => [].reverse)
    cases hi : (Region.ready .any ops listed)[t % (Region.ready .any ops listed).length]? with
    | none =>
      have hnil : Region.ready .any ops listed = [] := by
        cases hr : Region.ready .any ops listed with
        | nil => rfl
        | cons x xs =>
          rw [hr] at hi
          have hlt : t % (x :: xs).length < (x :: xs).length := Nat.mod_lt _ (by simp)
          simp at hi
          simp at hlt
          omega
      exact .done (ready_some hB hs hnil)
    | some i =>
      simp only []
      rw [linearise_go_acc, List.reverse_singleton, List.singleton_append]
      obtain ⟨h1, h2, o, h3, h4⟩ := ready_mem.1 (List.mem_of_getElem? hi)
      have hget : listed[i]? = some false := by
        rw [Array.getD_eq_getD_getElem?, Array.getElem?_eq_getElem (by omega)] at h2
        rw [Array.getElem?_eq_getElem (by omega)]
        simpa using h2
      refine .op h3 (by show listed.getD i false = false; rw [Array.getD_eq_getD_getElem?, hget]; rfl) h4 ?_
      have ih := lin_go hB fuel (t / (Region.ready .any ops listed).length) (listed.setIfInBounds i true) (by simpa using hs) (by
        have hil : i < listed.toList.length := by simpa using (by omega : i < listed.size)
        have hcs := List.count_set (a := true) (b := false) (l := listed.toList) (i := i) hil
        have hpos : 0 < listed.toList.count false := List.count_pos_iff.2 (by
          have := Array.mem_of_getElem? hget
          simpa using this)
        have hge : listed.toList[i] = false := by
          have := (Array.getElem?_eq_some_iff.1 hget).2
          simpa using this
        rw [Array.toList_setIfInBounds, hcs, hge]
        show List.count false listed.toList - 1 + 0 ≤ fuel
        omega)
      have hE : (fun q => (listed.setIfInBounds i true).getD q false) = (fun q => listed.getD q false || decide (q = i)) := by
        funext q
        simp only [Array.getD_eq_getD_getElem?, Array.getElem?_setIfInBounds]
        by_cases hq : i = q
        · subst hq; simp [show i < listed.size by omega]
        · simp [hq, show ¬ q = i from fun e => hq e.symm]
      rw [hE] at ih
      exact ih
theorem lin_schedule (hB : BackE ops) (t : Nat) : Lin ops (fun _ => false) (Region.schedule true ops t) := by
  simp only [Region.schedule, Bool.true_or, if_true]
  have := lin_go hB ops.size t (Array.replicate ops.size false) (by simp) (by simp)
  have hE : (fun q => (Array.replicate ops.size false).getD q false) = (fun _ => false) := by
    funext q
    simp only [Array.getD_eq_getD_getElem?, Array.getElem?_replicate]
    by_cases h : q < ops.size <;> simp [h]
  rw [hE] at this
  exact this
end
end Go.Ev
end
section
namespace Go.Ev
open Go
section
structure Cl (ops : Array Oper) (E : Nat → Bool) : Prop where
  lt : ∀ i, E i = true → i < ops.size
  ed : ∀ (i : Nat) (o : Oper), ops[i]? = some o → E i = true → ∀ e ∈ o.after.toList, Region.binds .any e = true → E e.on = true
structure DT (ρ : Rho) (j : Nat) (Ms : List Nat) (env : Env) (ops : Array Oper) (E : Nat → Bool) (T : List AV) (tmps : Array Value) : Prop where
  dn : ∀ (i : Nat) (o : Oper) (t : Nat), ops[i]? = some o → E i = true → o.dst = some t → VR ρ j (nthA i T) (tmps.getD t undef)
  old : ∀ t : Nat, (∀ (i : Nat) (o : Oper), ops[i]? = some o → E i = true → o.dst ≠ some t) → VR ρ j (ev (slotT Ms t) env []) (tmps.getD t undef)
def fam : AV → Option Ps
  | .p o _ _ => some o
  | .sl o _ _ _ _ => some o
  | .m o => some o
  | _ => none
def Alc (l : List DOp) (env : Env) (T : List AV) (done : Nat) (E : Nat → Bool) (i : Nat) (n : Ps) : Prop :=
  ∃ sl bef q kd g e a tw, l[i]? = some (.mk i sl bef q (kd + 2) g e a tw) ∧ Nat.testBit done i = true ∧ E i = false ∧ gOk g env T = 2 ∧ fam (nthA i T) = some n
structure DwI (P : Program) (X : Exts) (ρ : Rho) (j nt : Nat) (Ms : List Nat) (env : Env) (ops : Array Oper) (l : List DOp) (T : List AV) (done forced : Nat) (E : Nat → Bool) (tmps : Array Value) (rs : List (Nat ⊕ Ps)) : Prop where
  ok : drwB ops.toList 0 [] [] [] 0 0 = true
  ds : dstB nt ops.toList = true
  l' : l = tws (dops P X Ms ops.toList 0 [] [])
  len : T.length = ops.size
  cl : Cl ops E
  sub : ∀ i, E i = true → Nat.testBit done i = true
  fo : ∀ i, Nat.testBit forced i = true → E i = true
  lt : ∀ i, Nat.testBit done i = true → i < ops.size
  bf : ∀ (i : Nat) (sl : Option Nat) (bef : Nat) (q : Bool) (kd : Nat) (g : Option (_root_.Go.Ev.E × Bool)) (e : _root_.Go.Ev.E) (a : Act) (tw : Nat), l[i]? = some (.mk i sl bef q kd g e a tw) → Nat.testBit done i = true → ∀ p, Nat.testBit bef p = true → Nat.testBit done p = true
  pn : ∀ (i : Nat) (sl : Option Nat) (bef : Nat) (q : Bool) (kd : Nat) (g : Option (_root_.Go.Ev.E × Bool)) (e : _root_.Go.Ev.E) (a : Act) (tw : Nat), l[i]? = some (.mk i sl bef q kd g e a tw) → Nat.testBit done i = true → E i = false → (gOk g env T = 1 ∧ nthA i T = und) ∨ (gOk g env T = 2 ∧ q = true ∧ (kd = 0 → nthA i T ≠ top))
  nm : ∀ i n, Alc l env T done E i n → .inr n ∈ rs
  ne : ∀ i i' n, Alc l env T done E i n → Alc l env T done E i' n → i = i'
  dt : DT ρ j Ms env ops E T tmps
variable {P : Program} {X : Exts} {ρ ρ' : Rho} {j nt : Nat} {Ms : List Nat} {env : Env} {ops : Array Oper} {l : List DOp} {T : List AV} {done forced : Nat} {E : Nat → Bool} {tmps : Array Value} {rs : List (Nat ⊕ Ps)}
theorem DT.mono (h : DT ρ j Ms env ops E T tmps) (le : ρ.le ρ') : DT ρ' j Ms env ops E T tmps :=
  ⟨fun i o t h1 h2 h3 => (h.dn i o t h1 h2 h3).mono le, fun t h1 => (h.old t h1).mono le⟩
theorem DwI.mono (h : DwI P X ρ j nt Ms env ops l T done forced E tmps rs) (le : ρ.le ρ') : DwI P X ρ' j nt Ms env ops l T done forced E tmps rs := { h with dt := h.dt.mono le }
end
end Go.Ev
end
section
namespace Go.Ev
open Go
inductive ItsR (ρ : Rho) : List It → List Item → Prop
  | nil : ItsR ρ [] []
  | code {c k K} (h : ItsR ρ k K) : ItsR ρ (.code c :: k) (.code c :: K)
  | blk {i k K} (h : ItsR ρ k K) : ItsR ρ (.blk i :: k) (.inBlock i :: K)
  | lp {c k K} (h : ItsR ρ k K) : ItsR ρ (.lp c :: k) (.inLoop c :: K)
  | sc {c k K} (h : ItsR ρ k K) : ItsR ρ (.sc c :: k) (.inScope c :: K)
  | erf {l B k K} (hl : ρ l 0 = some (B, 0)) (h : ItsR ρ k K) : ItsR ρ (.erf l :: k) (.endRangeFunc B :: K)
  | br {k K} (h : ItsR ρ k K) : ItsR ρ (.br :: k) (.beginRound :: K)
abbrev Mks := List (Nat ⊕ Ps)
inductive DfsR (ρ : Rho) (j : Nat) : List AV → List Deferred → Mks → Prop
  | nil : DfsR ρ j [] [] []
  | mark {r ds Ds mk} (h : DfsR ρ j ds Ds mk) : DfsR ρ j ds ({ target := .collected r, args := #[] } :: Ds) (.inl r :: mk)
  | cons {f g A C t vs args ds Ds mk} (hf : VR ρ j f (.func (.func g) A C)) (hv : VRs ρ j vs args) (h : DfsR ρ j ds Ds mk) : DfsR ρ j (.x 8 0 [f, .x 1 t vs] :: ds) ({ target := .fn (.func g) C, args := A ++ args.toArray } :: Ds) mk
structure FrB (P : Program) (ρ : Rho) (fn : Nat) (Ms : List Nat) (kd : Nat) (rnd : AV) (b : Frame) (a : MAct) : Prop where
  fn' : b.fn = fn
  Ms' : Ms = fnMs P fn
  mslen : Ms.length ≤ 64
  sz : ntm P fn ≤ a.tmps.size
  kind' : (kd = 0 ∧ b.kind = .normal) ∨ (kd = 1 ∧ b.kind = .deferred)
  rnd' : (rnd = .z 1 ∧ b.roundOf = none) ∨ ∃ l B, rnd = .m l ∧ b.roundOf = some B ∧ ρ l 0 = some (B, 0)
  fun' : ∃ f, P.funcs[fn]? = some f
structure OpsR (P : Program) (nt : Nat) (ops : Array Oper) (il : List Nat) (l : List Oper) : Prop where
  ix : il.map (fun i => ops[i]?) = l.map some
  dst : ∀ o ∈ l, ∀ d, o.dst = some d → d < nt
inductive PdR (P : Program) (X : Exts) (ρ : Rho) (j nt : Nat) (Ms : List Nat) (env : Env) (b : Frame) (a : MAct) : List It → Pd → Frame → Mks → Prop
  | st {todo K ops i il o l cx n loc} (hk : ItsR ρ todo K) (ho : ops[i]? = some o) (hod : ∀ d, o.dst = some d → d < nt) (hl : OpsR P nt ops il l) (hc : CxR ρ j Ms env loc cx n a.tmps) : PdR P X ρ j nt Ms env b a todo (.st (comp P X Ms ops.toList l (cxAdd o.dst (.l n) cx) (n + 1)) loc) (b.atR a (.inRegion ops (i :: il) :: K)) []
  | dr {todo K ops E i il o l T done forced rs} (hk : ItsR ρ todo K) (ho : ops[i]? = some o) (hn : E i = false) (hb : ∀ e ∈ o.after.toList, Region.binds .any e = true → E e.on = true) (hnd : Nat.testBit done i = false) (hl : Lin ops (fun q => E q || decide (q = i)) il) (hI : DwI P X ρ j nt Ms env ops l T done forced E a.tmps rs) : PdR P X ρ j nt Ms env b a todo (.dr (.mk l T done forced) i) (b.atR a (.inRegion ops (i :: il) :: K)) rs
  | rf {todo K l B} (hl : ρ l 0 = some (B, 0)) (hk : ItsR ρ todo K) (ht : TR ρ j Ms env a.tmps) : PdR P X ρ j nt Ms env b a (.rf l :: todo) .rf (b.atR a (.inRangeFunc B :: K)) []
  | df {todo T} (ht : TR ρ j Ms env a.tmps) : PdR P X ρ j nt Ms env b a todo .df { b.atR a T with mode := .returning } []
inductive StkR (P : Program) (X : Exts) (ρ : Rho) (j : Nat) (cs0 : List Frame) : Env → Pd → Ct → List Frame → Mks → Prop
  | bot {env pd} : StkR P X ρ j cs0 env pd .bot cs0 []
  | cons {env pd fn Ms kd dfs rnd todo ue up u fr cs mk mks b a rs} (hb : FrB P ρ fn Ms kd rnd b a) (hd : DfsR ρ j dfs a.defers mk) (hp : PdR P X ρ j (ntm P fn) Ms env b a todo pd fr rs) (h : StkR P X ρ j cs0 ue up u cs mks) : StkR P X ρ j cs0 env pd (.mk fn Ms kd dfs rnd todo ue up u) (fr :: cs) (rs ++ (mk ++ mks))
structure MkR (B0 : Nat) (ρ : Rho) (mk : Mks) (H : Array Obj) : Prop where
  nodup : mk.Nodup
  nm : ∀ o, .inr o ∈ mk → o.num < ρ.nx ∧ ∀ m, ρ o m = none
  ob : ∀ r, .inl r ∈ mk → H[r]? = some (.deferred (some [])) ∧ B0 ≤ r ∧ ∀ o m X, ρ o m ≠ some (r, X)
structure WOK (w0 w : World) : Prop where
  os : w.os = w0.os
  out : w.output = w0.output
  tape : w.tape = w0.tape
  low : ∀ b, b < w0.heap.size → w.heap[b]? = w0.heap[b]?
noncomputable def botF (c : Ct) : Option Nat := Ct.rec (motive := fun _ => Option Nat) none (fun fn _ _ _ _ _ _ _ _ ih => some (ih.getD fn)) c
structure Cur (P : Program) (X : Exts) (j : Nat) (w0 : World) (cs0 : List Frame) (fn : Nat) (Ms : List Nat) (kd : Nat) (dfs : List AV) (rnd : AV) (ue : Env) (up : Pd) (u : Ct) (h : Hp) (b : Frame) (a : MAct) (cs : List Frame) (w : World) (ρ : Rho) (mk mks : Mks) : Prop where
  fb : FrB P ρ fn Ms kd rnd b a
  df : DfsR ρ j dfs a.defers mk
  st : StkR P X ρ j cs0 ue up u cs mks
  hr : HR P ρ j w0.heap.size h w.heap
  gl : GlobR ρ
  wk : WOK w0 w
  mk' : MkR w0.heap.size ρ (mk ++ mks) w.heap
  bt : (botF u).getD fn = w0.drawn
structure DwC (P : Program) (X : Exts) (j : Nat) (w0 : World) (cs0 : List Frame) (fn : Nat) (Ms : List Nat) (kd : Nat) (dfs : List AV) (rnd : AV) (todo : List It) (ue : Env) (up : Pd) (u : Ct) (env : Env) (h : Hp) (b : Frame) (a : MAct) (cs : List Frame) (w : World) (ρ : Rho) (mk mks : Mks) (K : List Item)
    (ops : Array Oper) (l : List DOp) (T : List AV) (done forced : Nat) (E : Nat → Bool) (il : List Nat) (rs : Mks) : Prop where
  c : Cur P X j w0 cs0 fn Ms kd dfs rnd ue up u h b a cs w ρ mk mks
  hk : ItsR ρ todo K
  hL : Lin ops E il
  hI : DwI P X ρ j (ntm P fn) Ms env ops l T done forced E a.tmps rs
  hR : MkR w0.heap.size ρ (rs ++ (mk ++ mks)) w.heap
inductive SxR (P : Program) (X : Exts) (j : Nat) (w0 : World) (cs0 : List Frame) : Sx → Machine → Prop
  | at_ {env h fn Ms kd dfs rnd todo ue up u b a cs w ρ mk mks K} (c : Cur P X j w0 cs0 fn Ms kd dfs rnd ue up u h b a cs w ρ mk mks) (ht : TR ρ j Ms env a.tmps) (hk : ItsR ρ todo K) : SxR P X j w0 cs0 (.at_ env (.mk fn Ms kd dfs rnd todo ue up u) h) (lone (b.atR a K) cs w)
  | dw {env h fn Ms kd dfs rnd todo ue up u b a cs w ρ mk mks K ops l T done forced E il rs} (d : DwC P X j w0 cs0 fn Ms kd dfs rnd todo ue up u env h b a cs w ρ mk mks K ops l T done forced E il rs) : SxR P X j w0 cs0 (.dw (.mk l T done forced) env (.mk fn Ms kd dfs rnd todo ue up u) h) (lone (b.atR a (.inRegion ops il :: K)) cs w)
  | re {env h fn Ms kd dfs rnd todo ue up u b a cs w ρ mk mks T} (c : Cur P X j w0 cs0 fn Ms kd dfs rnd ue up u h b a cs w ρ mk mks) (ht : TR ρ j Ms env a.tmps) : SxR P X j w0 cs0 (.re env (.mk fn Ms kd dfs rnd todo ue up u) h) (lone { b.atR a T with mode := .returning } cs w)
  | don {v h fr w ρ x f} (hm : fr.mode = .returning) (hd : fr.defers = []) (hk : fr.kind = .normal) (hf : P.funcs[fr.fn]? = some f) (hb0 : fr.fn = w0.drawn) (hrun : (results f fr.tmps).run P w = .ok x w) (hv : VR ρ j v x) (hn : v ≠ top) (wk : WOK w0 w) : SxR P X j w0 cs0 (.don v h) (lone fr cs0 w)
  | bad {n m} : SxR P X j w0 cs0 (.bad n) m
section
variable {P : Program} {X : Exts} {ρ ρ' : Rho} {j : Nat} {w0 w : World} {cs0 : List Frame}
theorem ItsR.mono (le : ρ.le ρ') {k : List It} {K : List Item} (h : ItsR ρ k K) : ItsR ρ' k K := by
  induction h with
  | nil => exact .nil
  | code _ ih => exact .code ih
  | blk _ ih => exact .blk ih
  | lp _ ih => exact .lp ih
  | sc _ ih => exact .sc ih
  | erf hl _ ih => exact .erf (le.get hl) ih
  | br _ ih => exact .br ih
theorem DfsR.mono (le : ρ.le ρ') {d : List AV} {D : List Deferred} {mk : Mks} (h : DfsR ρ j d D mk) : DfsR ρ' j d D mk := by
  induction h with
  | nil => exact .nil
  | mark _ ih => exact .mark ih
  | cons hf hv _ ih => exact .cons (hf.mono le) (hv.mono le) ih
theorem FrB.mono (le : ρ.le ρ') {fn Ms kd rnd b a} (h : FrB P ρ fn Ms kd rnd b a) : FrB P ρ' fn Ms kd rnd b a :=
  { h with rnd' := h.rnd'.imp id fun ⟨l, B, h1, h2, h3⟩ => ⟨l, B, h1, h2, le.get h3⟩ }
theorem PdR.mono (le : ρ.le ρ') {nt Ms env b a todo pd fr rs} (h : PdR P X ρ j nt Ms env b a todo pd fr rs) : PdR P X ρ' j nt Ms env b a todo pd fr rs := by
  cases h with
  | st hk ho hod hl hc => exact .st (hk.mono le) ho hod hl (hc.mono le)
  | dr hk ho hn hb hnd hl hI => exact .dr (hk.mono le) ho hn hb hnd hl (hI.mono le)
  | rf hl hk ht => exact .rf (le.get hl) (hk.mono le) (ht.mono le)
  | df ht => exact .df (ht.mono le)
theorem StkR.mono (le : ρ.le ρ') {env pd c cs mk} (h : StkR P X ρ j cs0 env pd c cs mk) : StkR P X ρ' j cs0 env pd c cs mk := by
  induction h with
  | bot => exact .bot
  | cons hb hd hp _ ih => exact .cons (hb.mono le) (hd.mono le) (hp.mono le) ih
theorem MkR.goW {B0 : Nat} {mk : Mks} {H H' : Array Obj} (h : MkR B0 ρ mk H) (t : TnW B0 ρ ρ' H H') (hn : ∀ o, .inr o ∈ mk → o.num < ρ'.nx ∧ ∀ m, ρ' o m = none) : MkR B0 ρ' mk H' := by
  refine ⟨h.nodup, hn, fun r hr => ?_⟩
  obtain ⟨h1, h2, h3⟩ := h.ob r hr
  have hlt := (Array.getElem?_eq_some_iff.1 h1).1
  refine ⟨by rw [t.keep r hlt h3]; exact h1, h2, fun o m Y e => ?_⟩
  rcases t.old o m _ e with ⟨o0, m0, X0, e0⟩ | e0
  · exact h3 _ _ _ e0
  · have : H.size ≤ r := e0
    omega
theorem MkR.go {B0 : Nat} {mk : Mks} {H H' : Array Obj} (h : MkR B0 ρ mk H) (t : Tn B0 ρ ρ' H H') : MkR B0 ρ' mk H' :=
  h.goW t.toTnW fun o ho => by
    obtain ⟨h1, h2⟩ := h.nm o ho
    refine ⟨by rw [t.nxe]; exact h1, fun m => ?_⟩
    cases e : ρ' o m with
    | none => rfl
    | some p =>
      rcases t.nw o m p e with ⟨m0, p0, e0⟩ | e0
      · rw [h2 m0] at e0; cases e0
      · omega
theorem MkR.right {Bz : Nat} {H : Array Obj} {xs ys : Mks} (m : MkR Bz ρ (xs ++ ys) H) : MkR Bz ρ ys H :=
  ⟨(List.nodup_append.1 m.nodup).2.1, fun o ho => m.nm o (List.mem_append_right _ ho), fun r hr => m.ob r (List.mem_append_right _ hr)⟩
theorem MkR.sub {Bz : Nat} {H : Array Obj} {xs ys : Mks} (m : MkR Bz ρ ys H) (h : xs.Sublist ys) : MkR Bz ρ xs H :=
  ⟨m.nodup.sublist h, fun o ho => m.nm o (h.subset ho), fun r hr => m.ob r (h.subset hr)⟩
theorem MkR.bump {B0 n : Nat} {mk : Mks} {H : Array Obj} (h : MkR B0 ρ mk H) (hn : ρ.nx ≤ n) : MkR B0 (ρ.bump n) mk H :=
  ⟨h.nodup, fun o ho => ⟨Nat.lt_of_lt_of_le (h.nm o ho).1 hn, (h.nm o ho).2⟩, h.ob⟩
theorem WOK.go {_H' : Array Obj} {w' : World} (h : WOK w0 w) (h1 : w'.os = w.os) (h2 : w'.output = w.output) (h3 : w'.tape = w.tape) (t : TnW w0.heap.size ρ ρ' w.heap w'.heap) : WOK w0 w' :=
  ⟨h1.trans h.os, h2.trans h.out, h3.trans h.tape, fun b hb => (t.low b hb).trans (h.low b hb)⟩
theorem Cur.go {fn Ms kd dfs rnd ue up u h b a cs mk mks} (c : Cur P X j w0 cs0 fn Ms kd dfs rnd ue up u h b a cs w ρ mk mks) {h' : Hp} {v : AV} {x : Value} {w' : World} (d : DoesP P j w0.heap.size ρ w h' v x w' ρ') (dst : Option Nat) (y : Value) :
    Cur P X j w0 cs0 fn Ms kd dfs rnd ue up u h' b (a.put dst y) cs w' ρ' mk mks := by
  have le := d.tn.le
  refine ⟨?_, ?_, c.st.mono le, d.hr, c.gl.mono le, c.wk.go (_H' := w'.heap) d.os d.out d.tape d.tn.toTnW, c.mk'.go d.tn, c.bt⟩
  · have := c.fb.mono le
    exact { this with sz := by cases dst <;> simp [Go.Act.put, this.sz] }
  · have := c.df.mono le
    cases dst <;> exact this
theorem Cur.put {fn Ms kd dfs rnd ue up u h b a cs mk mks} (c : Cur P X j w0 cs0 fn Ms kd dfs rnd ue up u h b a cs w ρ mk mks) (dst : Option Nat) (y : Value) : Cur P X j w0 cs0 fn Ms kd dfs rnd ue up u h b (a.put dst y) cs w ρ mk mks :=
  { c with
    fb := { c.fb with sz := by cases dst <;> simp [Go.Act.put, c.fb.sz] }
    df := by cases dst <;> exact c.df }
theorem Cur.btf {fn Ms kd dfs rnd ue up u h b a cs mk mks} (c : Cur P X j w0 cs0 fn Ms kd dfs rnd ue up u h b a cs w ρ mk mks) (hu : isBot u = false) : (botF u).getD w0.drawn = w0.drawn := by
  have := c.bt
  cases u with
  | bot => cases hu
  | mk => exact this
theorem und_inv {v : Value} (h : VR ρ j (.z 7) v) : v = .tuple #[] := by cases h; rfl
theorem dstOf_eq : ∀ (l : List Oper) (q : Nat), dstOf l q = (l[q]?).bind (·.dst)
  | [], _ => rfl
  | _ :: _, 0 => rfl
  | _ :: l, q + 1 => dstOf_eq l q
theorem guard_ok {Ms : List Nat} {env : Env} {loc : List AV} {cx : Cx} {n q : Nat} {wt : Bool} {ops : Array Oper} {tmps : Array Value} (h : CxR ρ j Ms env loc cx n tmps) :
    (∀ d no yes : Sx, gdC (ev (gE Ms ops.toList cx n q) env loc) wt d no yes = d) ∨ ((∀ d no yes : Sx, gdC (ev (gE Ms ops.toList cx n q) env loc) wt d no yes = yes) ∧ yielded ops tmps q = some wt) ∨
      ((∀ d no yes : Sx, gdC (ev (gE Ms ops.toList cx n q) env loc) wt d no yes = no) ∧ yielded ops tmps q ≠ some wt) := by
  have hy : yielded ops tmps q = (match ((dstOf ops.toList q).bind (tmps[·]?) : Option Value) with | some (.bool b) => some b | _ => none) := by
    unfold yielded; rw [dstOf_eq, Array.getElem?_toList]; rfl
  unfold gE
  rw [hy]
  cases hd : dstOf ops.toList q with
  | none => exact .inl fun d no yes => rfl
  | some t =>
    simp only [Option.bind_some]
    have ht := h.told t
    generalize ev (tmpE false Ms cx n t) env loc = v at ht ⊢
    have hget : tmps.getD t undef = (tmps[t]?).getD undef := by simp [Array.getD_eq_getD_getElem?]
    rw [hget] at ht
    cases v with
    | b c =>
      have hb := ht.bool
      have h1 : tmps[t]? = some (.bool c) := by
        cases e : tmps[t]? with
        | none => rw [e] at hb; cases hb
        | some x => rw [e] at hb; simpa using hb
      rw [h1]
      have E : ∀ d no yes : Sx, gdC (.b c) wt d no yes = bc (eqB c wt) yes no := fun _ _ _ => rfl
      by_cases hc : c = wt
      · subst hc
        exact .inr (.inl ⟨fun d no yes => by rw [E, eqB_eq, beq_self_eq_true, bc_t], rfl⟩)
      · refine .inr (.inr ⟨fun d no yes => by rw [E, eqB_eq, beq_false_of_ne hc, bc_f], fun e => hc (by injection e)⟩)
    | z q' =>
      have E : ∀ d no yes : Sx, gdC (.z q') wt d no yes = bc (Nat.beq q' 7) no d := fun _ _ _ => rfl
      by_cases hq : q' = 7
      · subst hq
        have hx := und_inv ht
        refine .inr (.inr ⟨fun d no yes => rfl, ?_⟩)
        cases e : tmps[t]? with
        | none => intro h; cases h
        | some x =>
          rw [e] at hx
          have hx : x = .tuple #[] := hx
          subst hx
          intro h; cases h
      · exact .inl fun d no yes => by rw [E, beq_eq]; simp only [hq, decide_false, bc_f]
    | _ => exact .inl fun d no yes => rfl
end
end Go.Ev
end
