/- Appends to words that the call owns. -/
import Derived.Test.YtefiliomfiomfacMem
import Derived.Maps.AppendAt
namespace Go.Proofs.Ytefiliomfiomfac
open Go.RowKit Go.Maps

theorem info2 : (Try.prog.info? 2).map (fun i => (i.zero, i.size, i.bytes)) = some (some (.int .i64 0), 1, 8) := by kernel_rfl
theorem oneCell_int (l : List Int) : ∀ u ∈ l.map (Value.int .i64), u.oneCell' = true := by
  intro u hu
  obtain ⟨c, _, rfl⟩ := List.mem_map.1 hu
  rfl
theorem RI.cells {w : World} {a : Option Addr} {n c : Nat} {l : List Int} (h : RI w (.slice a n c) l) : n = l.length ∧ (a = none → n = 0 ∧ c = 0) ∧ ∀ b, a = some b → ∀ j u, (l.map (Value.int .i64))[j]? = some u → w.cell? (b.add j) = some u := by
  obtain ⟨a', c', h1, h2, h3, h4⟩ := h
  injection h1 with e1 e2 e3
  subst e1 e2 e3
  refine ⟨rfl, fun hn => ⟨by have := h3 hn; omega, h3 hn⟩, ?_⟩
  intro b hb j u hu
  have hl : l ≠ [] := by intro e; subst e; simp at hu
  obtain ⟨b', o, e, _, hc⟩ := h4 hl
  rw [hb] at e
  injection e with e
  subst e
  have hj : j < l.length := by
    have := (List.getElem?_eq_some_iff.1 hu).1
    simpa using this
  have e : (⟨b', o, none⟩ : Addr).add j = ⟨b', o + j, none⟩ := by unfold Addr.add; split <;> simp_all
  rw [e, hc j hj, ← hu, List.getElem?_map, List.getElem?_eq_getElem hj]
  rfl
theorem RI.chg {F : Nat → Prop} {w w' : World} {v : Value} {l : List Int} (h : RI w v l) (hc : Chg F w w') (hb : ∀ k, v.ownBlock = some k → ¬ F k) : RI w' v l := by
  obtain ⟨a, c, rfl, h2, h3, h4⟩ := h
  refine ⟨a, c, rfl, h2, h3, fun hl => ?_⟩
  obtain ⟨b, o, rfl, hlt, hcs⟩ := h4 hl
  refine ⟨b, o, rfl, Nat.lt_of_lt_of_le hlt hc.size, fun i hi => ?_⟩
  rw [← hcs i hi]
  exact World.cell?_of_block (hc.block b hlt (hb b rfl))
theorem RI.nil (w : World) : RI w (.slice none 0 0) [] := ⟨none, 0, rfl, Nat.le_refl _, fun _ => rfl, fun h => absurd rfl h⟩
theorem OI.ri {w : World} {v : Value} {l : List Int} (h : OI w v l) : RI w v l := by
  have hlt := h.lt
  obtain ⟨h1, h2⟩ := h
  rcases h2 with ⟨rfl, hn⟩ | ⟨g, cap, cur, rfl, hb, hg, hnc, hcm, hcs, ht⟩
  · have : l = [] := List.eq_nil_of_length_eq_zero hn
    subst this
    exact RI.nil w
  · refine ⟨_, cap, rfl, hnc, (fun h => by cases h), fun _ => ⟨g, 0, rfl, hlt g rfl, fun i hi => ?_⟩⟩
    rw [cell_of_row w g (0 + i) cur 2 (0, 0) hg]
    have : (l.map (Value.int .i64))[i]? = some (.int .i64 l[i]) := by rw [List.getElem?_map, List.getElem?_eq_getElem hi]; rfl
    rw [← ht, List.getElem?_take, Nat.mul_one, if_pos hi] at this
    simpa using this
theorem ri_one (w : World) (x : Int) (T : TypeId) (fr : Nat × Nat) : RI (w.alloc (.cells #[.int .i64 x] T fr)) (.slice (some ⟨w.heap.size, 0, none⟩) 1 1) [x] := by
  refine ⟨_, 1, rfl, by simp, (fun h => by cases h), fun _ => ⟨w.heap.size, 0, rfl, by simp, ?_⟩⟩
  intro i hi
  have : i = 0 := by simpa using hi
  subst this
  rw [World.cell?_alloc_mark]
  rfl
theorem grown_refl (w : World) (row : Option Nat) : w.grownBy w row := ⟨rfl, rfl, rfl, Nat.le_refl _, fun _ _ _ => rfl⟩

/-- 'append(out, xs...)', out the call's own. -/
theorem wpList_appI {w : World} {ops : Array Oper} {rest : List Oper} {o : Oper} {a : Act} {Q : Exit → Act → World → Prop} (hgd : o.guard = none) (s x : Operand)
    (ho : o.op = .call { callee := .builtin .append, args := #[s, x], argTypes := #[37, 37] })
    (v xv : Value) (l r : List Int) (hs : a.eval s = v) (hx : a.eval x = xv) (hown : OI w v l) (hr : RI w xv r)
    (hlen : l.length + r.length ≤ 1048576)
    (h : ∀ v' w', OI w' v' (l ++ r) → w.grownBy w' v.ownBlock → (v'.ownBlock = v.ownBlock ∨ v'.ownBlock = some w.heap.size) → wpList Try.prog ops Q rest (a.put o.dst v') w') : wpList Try.prog ops Q (o :: rest) a w := by
  obtain ⟨i0, hi, hz0, hz1, hz2⟩ := info_parts info2
  obtain ⟨ad, c, rfl, hlc, hn0, hcells⟩ := id hr
  cases ad with
  | none =>
    have hc := hn0 rfl
    subst hc
    have hr0 : r = [] := List.eq_nil_of_length_eq_zero (by omega)
    subst hr0
    refine wpList_append_own_none hgd s x 37 ho 0 2 i0 1 Try.underlying37 hi v l.length (l.map (Value.int .i64)) hs hown hx ?_
    exact h v w (by simpa using hown) (grown_refl _ _) (.inl rfl)
  | some b =>
    refine wpList_append_own_at w hgd s x 37 ho 0 2 i0 (.int .i64 0) 1 8 Try.underlying37 hi hz0 hz1 hz2 rfl (by decide) v l.length (l.map (Value.int .i64)) hs hown b r.length c (r.map (Value.int .i64)) hx (by simp) ((RI.cells hr).2.2 b rfl) (oneCell_int _) (by unfold maxLen; omega) (by omega) (Nat.zero_le _) ?_
    intro v' w' hown' hg _ hloc
    refine h v' w' ?_ hg hloc
    unfold OI
    simpa using hown'

theorem zeroCells_one (z : Value) (n : Nat) : (Builtin.zeroCells #[z] n).toList = List.replicate n z := by
  apply List.ext_getElem?
  intro j
  by_cases hj : j < n
  · simp [Builtin.zeroCells, hj, Nat.mod_one]
  · simp [Builtin.zeroCells, hj]
theorem run_append_room_zeros (w : World) (ty : TypeId) (g sLen sCap k : Nat) (cur : Array Value) (hg : w.heap[g]? = some (.cells cur 2 (0, 0)))
    (hroom : sLen + k ≤ sCap) (hfit : sLen + k ≤ cur.size) (hk : k ≤ 1048576) :
    (Builtin.append_ #[37, 3] ty #[.slice (some ⟨g, 0, none⟩) sLen sCap, .int .i64 (k : Int)]).run Try.prog w =
      .ok (.slice (some ⟨g, 0, none⟩) (sLen + k) sCap) (w.setRow g (cur.toList.take sLen ++ List.replicate k (Value.int .i64 0) ++ cur.toList.drop (sLen + k)).toArray) := by
  obtain ⟨i0, hi, hz0, hz1, hz2⟩ := info_parts info2
  have hw : IntKind.i64.wrap (k : Int) = k := by rw [IntKind.wrap_i64]; omega
  have hneg : ¬ ((k : Int) < 0) := by omega
  have h48i : ¬ (281474976710656 < (k : Int) * 8) := by omega
  have hst := run_storeCells_at Try.prog g sLen 2 (List.replicate k (Value.int .i64 0)) 0 cur w hg (by simpa using hfit) (by intro v hv; rw [List.eq_of_mem_replicate hv]; rfl)
  simp only [Nat.add_zero, List.length_replicate] at hst
  by_cases hk0 : k = 0
  · subst hk0
    have hw0 : IntKind.i64.wrap 0 = 0 := by decide
    have hr0 : sLen ≤ sCap := by omega
    simp [Builtin.append_, run_underlying Try.underlying37, run_underlying Try.underlying3, sizeOf, typeInfo, hi, hz1, hz2, asInt, asIntOf, hw0, hr0, Addr.add_lit]
    have := setRow_self w g cur 2 (0, 0) hg
    rw [this]
    simp [storeCells]
  · simp [Builtin.append_, run_underlying Try.underlying37, run_underlying Try.underlying3, sizeOf, typeInfo, zeroValue, hi, hz0, hz1, hz2, asInt, asIntOf, hw, hneg, h48i, hroom, Addr.add_lit, hk0]
    rw [show (Value.int IntKind.i64 0).cells = #[.int .i64 0] from rfl, zeroCells_one, hst]
    simp [Result.andThen, List.append_assoc]
theorem run_appZ (w : World) (ty : TypeId) (v : Value) (l : List Int) (k : Nat) (hown : OI w v l) (hlen : l.length + k ≤ 1048576) :
    ∃ v' w', (Builtin.append_ #[37, 3] ty #[v, .int .i64 (k : Int)]).run Try.prog w = .ok v' w' ∧ OI w' v' (l ++ List.replicate k 0) ∧ w.grownBy w' v.ownBlock ∧ (v'.ownBlock = v.ownBlock ∨ v'.ownBlock = some w.heap.size) := by
  obtain ⟨i0, hi, hz0, hz1, hz2⟩ := info_parts info2
  have hlen2 : ((l ++ List.replicate k 0).map (Value.int .i64)).length = (l ++ List.replicate k 0).length * 1 := by simp
  have hmap : (l ++ List.replicate k 0).map (Value.int .i64) = l.map (Value.int .i64) ++ List.replicate k (Value.int .i64 0) := by rw [List.map_append, List.map_replicate]
  have hl : (l ++ List.replicate k (0 : Int)).length = l.length + k := by simp
  rcases hown.2 with ⟨rfl, h0⟩ | ⟨g, cap, cur, rfl, hbg, hg, hnc, hcm, hcs, htake⟩
  · have hx : l = [] := List.eq_nil_of_length_eq_zero h0
    subst hx
    rcases Nat.eq_zero_or_pos k with hk | hk
    · subst hk
      refine ⟨.slice none 0 0, w, ?_, World.ownsRow_nil w 0 2 1, grown_refl _ _, .inl rfl⟩
      have hw0 : IntKind.i64.wrap 0 = 0 := by decide
      simp [Builtin.append_, run_underlying Try.underlying37, run_underlying Try.underlying3, sizeOf, typeInfo, hi, hz2, asInt, asIntOf, hw0]
    · have hr := Lib.run_append_nil_zeros (P := Try.prog) w 37 3 ty 2 i0 (.int .i64 0) .i64 .i64 Try.underlying37 Try.underlying3 hi hz0 k hk (by omega) (by omega) (by rw [hz2]; simp at hlen; omega)
      have hge := grownCap_ge w k 0 2
      have hcm := grownCap_le_maxLen w k 0 2 (by unfold maxLen; simp at hlen; omega)
      refine ⟨_, _, hr, ⟨hlen2, .inr ⟨w.heap.size, _, _, by simp, Nat.zero_le _, heap_alloc_new w.drew _, by simpa using hge, hcm, ?_, ?_⟩⟩, ⟨rfl, rfl, rfl, by simp, fun j hj _ => heap_alloc_old w.drew _ hj⟩, .inr rfl⟩
      · have e : (Value.int IntKind.i64 0).cells.size = 1 := rfl
        simp only [Array.size_append, size_zeroCells, e]
        omega
      · rw [show (Value.int IntKind.i64 0).cells = #[Value.int .i64 0] from rfl]
        simp only [Array.toList_append, zeroCells_one, hmap]
        simp
  · have hcs' : cur.size = cap := by omega
    by_cases hroom : l.length + k ≤ cap
    · have hr := run_append_room_zeros w ty g l.length cap k cur hg hroom (by omega) (by omega)
      refine ⟨_, _, hr, ⟨hlen2, .inr ⟨g, cap, _, by rw [hl], hbg, setRow_heap w g cur _ 2 _ hg, by rw [hl]; exact hroom, hcm, ?_, ?_⟩⟩, ⟨rfl, rfl, rfl, by simp, fun j _ hj => setRow_other w g j _ (fun e => hj (by simp [Value.ownBlock, e]))⟩, .inl rfl⟩
      · simp only [List.size_toArray, List.length_append, List.length_take, List.length_drop, Array.length_toList, List.length_replicate]
        omega
      · rw [hmap, hl, Nat.mul_one]
        rw [Nat.mul_one] at htake
        rw [htake]
        have : (l.map (Value.int .i64) ++ List.replicate k (Value.int IntKind.i64 0)).length = l.length + k := by simp
        rw [← this]
        exact List.take_left
    · have holds : ∀ j u, (l.map (Value.int .i64))[j]? = some u → w.cell? ((⟨g, 0, none⟩ : Addr).add j) = some u := World.ownsRow.cells hown (g := g) rfl
      have hf : (Builtin.firstCells i0.size l.length (.slice (some ⟨g, 0, none⟩) l.length cap)).run Try.prog w.drew = .ok (l.map (Value.int .i64)).toArray w.drew :=
        run_firstCells_some (P := Try.prog) w.drew i0.size l.length ⟨g, 0, none⟩ l.length cap (l.map (Value.int .i64)) (by rw [hz1]; simp) holds
      have hr := Lib.run_append_grow_zeros (P := Try.prog) w 37 3 ty 2 i0 (.int .i64 0) .i64 .i64 Try.underlying37 Try.underlying3 hi hz0 (some ⟨g, 0, none⟩) l.length cap (l.map (Value.int .i64)) hf k (by omega) (by omega) (by omega) (by omega) (by rw [hz2]; omega)
        (growslice_fits (by omega) (by rw [hz2]; omega))
      have hge := grownCap_ge w (l.length + k) cap 2
      have hcm := grownCap_le_maxLen w (l.length + k) cap 2 (by unfold maxLen; omega)
      refine ⟨_, _, hr, ⟨hlen2, .inr ⟨w.heap.size, _, _, by rw [hl], Nat.zero_le _, heap_alloc_new w.drew _, by rw [hl]; exact hge, hcm, ?_, ?_⟩⟩, ⟨rfl, rfl, rfl, by simp, fun j hj _ => heap_alloc_old w.drew _ hj⟩, .inr rfl⟩
      · have e : (Value.int IntKind.i64 0).cells.size = 1 := rfl
        simp only [Array.size_append, size_zeroCells, e, List.size_toArray, List.length_map]
        omega
      · rw [show (Value.int IntKind.i64 0).cells = #[Value.int .i64 0] from rfl]
        simp only [Array.toList_append, zeroCells_one, hmap, hl]
        have : (l.map (Value.int .i64) ++ List.replicate k (Value.int IntKind.i64 0)).length = l.length + k := by simp
        rw [Nat.mul_one, ← this]
        exact List.take_left
/-- 'append(out, make([]int64, k)...)', out the call's own. -/
theorem wpList_appZ {w : World} {ops : Array Oper} {rest : List Oper} {o : Oper} {a : Act} {Q : Exit → Act → World → Prop} (hgd : o.guard = none) (s x : Operand)
    (ho : o.op = .call { callee := .builtin .append, args := #[s, x], argTypes := #[37, 3] })
    (v : Value) (l : List Int) (k : Nat) (hs : a.eval s = v) (hx : a.eval x = .int .i64 (k : Int)) (hown : OI w v l) (hlen : l.length + k ≤ 1048576)
    (h : ∀ v' w', OI w' v' (l ++ List.replicate k 0) → w.grownBy w' v.ownBlock → (v'.ownBlock = v.ownBlock ∨ v'.ownBlock = some w.heap.size) → wpList Try.prog ops Q rest (a.put o.dst v') w') : wpList Try.prog ops Q (o :: rest) a w := by
  obtain ⟨v', w', hr, h1, h2, h3⟩ := run_appZ w o.type v l k hown hlen
  exact Lib.wpList_append_run w hgd s x 37 3 ho v _ hs hx v' w' hr (h v' w' h1 h2 h3)
end Go.Proofs.Ytefiliomfiomfac
