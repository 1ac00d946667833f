/- The reference's Put, Thing, Array. -/
import Derived.Test.YtefiliomfiomfacRRead
import Derived.IntWalk
import Derived.BigQuiet
namespace Go.Proofs.Ytefiliomfiomfac
open Go.RowKit Go.Maps

theorem info70 : (Try.prog.info? 70).map (fun i => (i.zero, i.size, i.bytes)) = some (some (.agg #[.int .i64 0, .int .i64 0, .slice none 0 0, .int .i64 0]), 4, 48) := by kernel_rfl
/-- What a call that makes a thing leaves. -/
def RPost (w : World) (F : Nat → Prop) (p : Value) (most : Nat) (r : Int × Int × List Th) (e : Ending) (w' : World) : Prop :=
  e = .returned (.tuple #[.int .i64 r.1, .int .i64 r.2.1]) ∧ ∃ F' L', RT w' F' p L' most ∧ L'.map thOf = r.2.2 ∧ Chg F w w' ∧ ∀ k, F' k → F k ∨ w.heap.size ≤ k
theorem put_bad {w : World} {F : Nat → Prop} {p : Value} {L : List Rec} {most : Nat} (h : RT w F p L most) (id : Nat) (hid : id ≤ 65535) (l : List Int) (a : Option Addr) (n c : Nat) (hn : n = l.length) (hln : l.length ≤ 8192) (hfull : most < used (L.map thOf) + (l.length + 1)) :
    Calls Try.prog 45 #[p, .int .i64 (id : Int), .slice a n c] w fun e w' => e = .returned (.tuple #[.int .i64 0, .int .i64 17]) ∧ ∃ k, w' = w.drewN k := by
  subst hn
  have HU := Lib.hid (fun k => usedR18 (h.chg ((Chg.refl (fun _ => False) w).drewN k) (fun _ _ e => e)))
  obtain ⟨hl, hu⟩ := h.len
  have hm := h.1.1
  obtain ⟨R, av, cv, rfl, c0, c1, hs⟩ := h.see
  generalize used (L.map thOf) = u at *
  generalize l.length = n at *
  clear h hs
  go_enter Try.func45, Try.ntmps45
  go_wp2
  have k1 : IntKind.i64.wrap ((n : Int) + 1) = (n : Int) + 1 := IntWalk.i64_in _ (by omega)
  have k2 : IntKind.i64.wrap ((most : Int) - (u : Int)) = (most : Int) - (u : Int) := IntWalk.i64_in _ (by omega)
  have k3 : decide ((most : Int) - (u : Int) < (n : Int) + 1) = true := decide_eq_true (by omega)
  go_quiet (first | (go_at_call 18; refine Calls.quiet_of_same (HU.out _)))
  clear k1 k2
  go_wp2
  go_ret2
  exact ⟨rfl, _, rfl⟩
theorem wpList_appR {w : World} {ops : Array Oper} {rest : List Oper} {o : Oper} {a : Act} {Q : Exit → Act → World → Prop} (hgd : o.guard = none) (s x : Operand)
    (ho : o.op = .call { callee := .builtin .append, args := #[s, x], argTypes := #[41, 41] })
    (v : Value) (L : List Rec) (g : Nat) (r : Rec) (hs : a.eval s = v) (hx : a.eval x = .slice (some ⟨g, 0, none⟩) 1 1) (hown : OR w v L) (hcell : ∀ j, w.cell? ⟨g, j, none⟩ = #[.int .i64 r.at_, .int .i64 (r.id : Int), r.v, .int .i64 r.sent][j]?) (hv : r.v.oneCell' = true)
    (hlen : L.length ≤ 1048576)
    (h : ∀ v' w', OR w' v' (L ++ [r]) → w.grownBy w' v.ownBlock → (v'.ownBlock = v.ownBlock ∨ v'.ownBlock = some w.heap.size) → wpList Try.prog ops Q rest (a.put o.dst v') w') : wpList Try.prog ops Q (o :: rest) a w := by
  obtain ⟨i0, hi, hz0, hz1, hz2⟩ := info_parts info70
  refine wpList_append_own_at w hgd s x 41 ho 0 70 i0 _ 4 48 Try.underlying41 hi hz0 hz1 hz2 rfl (by decide) v L.length (L.flatMap cells4) hs hown ⟨g, 0, none⟩ 1 1 (cells4 r) hx rfl ?_ ?_ (by unfold maxLen; omega) (by omega) (Nat.zero_le _) ?_
  · intro j u hu
    have := hcell j
    rw [show (⟨g, 0, none⟩ : Addr).add j = ⟨g, j, none⟩ from by simp [Addr.add]; intro e; exact e.symm, this]
    rw [← hu]
    simp [cells4]
  · intro u hu
    simp only [cells4, List.mem_cons, List.not_mem_nil, or_false] at hu
    rcases hu with rfl | rfl | rfl | rfl
    · rfl
    · rfl
    · exact hv
    · rfl
  · intro v' w' hown' hg _ hloc
    refine h v' w' ?_ hg hloc
    unfold OR
    simpa using hown'
theorem RT.push {w w1 w2 : World} {F : Nat → Prop} {R : Nat} {v v3 : Value} {L : List Rec} {most : Nat} {r : Rec} (h : RT w F (.pointer (some ⟨R, 0, none⟩)) L most) (hv : w.cell? ⟨R, 1, none⟩ = some v)
    (h1 : Chg (fun _ => False) w w1) (ow : OI w1 r.v r.w) (hnew : ∀ g, r.v.ownBlock = some g → w.heap.size ≤ g)
    (h2 : Chg (fun k => v.ownBlock = some k) w1 w2) (oR : OR w2 v3 (L ++ [r])) (hloc : v3.ownBlock = v.ownBlock ∨ ∀ g, v3.ownBlock = some g → w1.heap.size ≤ g)
    (hat : r.at_ = (used (L.map thOf) : Int) + 1) (hid : r.id ≤ 65535) (hu : used (L.map thOf) + (1 + r.w.length) ≤ most) :
    ∃ F', RT (w2.setCell ⟨R, 1, none⟩ v3) F' (.pointer (some ⟨R, 0, none⟩)) (L ++ [r]) most ∧ Chg F w (w2.setCell ⟨R, 1, none⟩ v3) ∧ ∀ k, F' k → F k ∨ w.heap.size ≤ k := by
  obtain ⟨hg, ha, hF, R', v', e, hb, hor, hFR, hvF, hws, hpw⟩ := h
  injection e with e
  injection e with e
  injection e with e
  subst e
  have hvv : v' = v := by
    unfold World.cell? at hv
    rw [hb] at hv
    exact Option.some.inj hv
  subst hvv
  have hRw := hF R hFR
  have hs1 := h1.size
  have hs2 := h2.size
  have hb2 : w2.heap[R]? = some (.cells #[.int .i64 (most : Int), v'] 43 (0, 0)) := (h2.block R (by omega) (fun e => (hvF R e).2 rfl)).trans ((h1.block R hRw (fun e => e)).trans hb)
  have h3R : v3.ownBlock ≠ some R := fun e => by
    rcases hloc with q | q
    · exact (hvF R (q ▸ e)).2 rfl
    · have := q R e; omega
  have hset := Chg.setCell (F := fun k => k = R) (o := 1) w2 v3 rfl
  have hold : ∀ i (hi : i < L.length), OI (w2.setCell ⟨R, 1, none⟩ v3) L[i].v L[i].w ∧ ∀ g, L[i].v.ownBlock = some g → (F g ∧ g < w.heap.size) ∧ g ≠ R ∧ v3.ownBlock ≠ some g := fun i hi => by
    obtain ⟨o1, o2⟩ := hws i hi
    have o3 := (o1.chg h1 (fun _ _ e => e)).chg h2 (fun k hk e => (o2 k hk).2.2 e)
    refine ⟨o3.chg hset (fun k hk e => (o2 k hk).2.1 e), fun g hgk => ⟨⟨(o2 g hgk).1, hF g (o2 g hgk).1⟩, (o2 g hgk).2.1, fun e => ?_⟩⟩
    rcases hloc with q | q
    · exact (o2 g hgk).2.2 (q ▸ e)
    · have := q g e
      have := hF g (o2 g hgk).1
      omega
  have hrn : OI (w2.setCell ⟨R, 1, none⟩ v3) r.v r.w ∧ ∀ g, r.v.ownBlock = some g → (w.heap.size ≤ g ∧ g < w2.heap.size) ∧ g ≠ R ∧ v3.ownBlock ≠ some g := by
    have hlt := ow.lt
    refine ⟨(ow.chg h2 (fun k hk e => ?_)).chg hset (fun k hk e => ?_), fun g hgk => ⟨⟨hnew g hgk, ?_⟩, fun e => ?_, fun e => ?_⟩⟩
    · have := hnew k hk
      have := hF k (hvF k e).1
      omega
    · have := hnew k hk
      omega
    · have := hlt g hgk
      omega
    · have := hnew g hgk
      omega
    · rcases hloc with q | q
      · have := hF g (hvF g (q ▸ e)).1
        have := hnew g hgk
        omega
      · have := q g e
        have := hlt g hgk
        omega
  have hall : ∀ i (hi : i < (L ++ [r]).length), (∃ h' : i < L.length, (L ++ [r])[i] = L[i]) ∨ (i = L.length ∧ (L ++ [r])[i] = r) := fun i hi => by
    by_cases h' : i < L.length
    · exact .inl ⟨h', List.getElem_append_left h'⟩
    · have : i = L.length := by simp at hi; omega
      subst this
      exact .inr ⟨rfl, by simp⟩
  refine ⟨fun k => F k ∨ (w.heap.size ≤ k ∧ k < w2.heap.size), ⟨?_, ha.push r (by rw [hat]; simp), ?_, R, v3, rfl, ?_, oR.chg hset (fun k hk e => h3R (by rw [hk, e])), .inl hFR, ?_, ?_, ?_⟩, ?_, ?_⟩
  · rw [List.map_append]
    exact hg.push (thOf r) hid hu
  · rintro k (hk | hk)
    · have := hF k hk
      simp; omega
    · simp; omega
  · rw [heap_setCell_same w2 R 1 _ 43 _ hb2]
    rfl
  · intro g hgk
    refine ⟨?_, fun e => h3R (by rw [hgk, e])⟩
    rcases hloc with q | q
    · exact .inl (hvF g (q ▸ hgk)).1
    · have := q g hgk
      have := oR.lt g hgk
      exact .inr ⟨by omega, by omega⟩
  · intro i hi
    rcases hall i hi with ⟨h', e⟩ | ⟨_, e⟩
    · rw [e]
      obtain ⟨o1, o2⟩ := hold i h'
      exact ⟨o1, fun g hgk => ⟨.inl (o2 g hgk).1.1, (o2 g hgk).2⟩⟩
    · rw [e]
      exact ⟨hrn.1, fun g hgk => ⟨.inr (hrn.2 g hgk).1, (hrn.2 g hgk).2⟩⟩
  · intro i j hi hj hij g hgk
    rcases hall i hi with ⟨hi', e⟩ | ⟨hi', e⟩ <;> rcases hall j hj with ⟨hj', e'⟩ | ⟨hj', e'⟩
    · rw [e] at hgk
      rw [e']
      exact hpw i j hi' hj' hij g hgk
    · rw [e] at hgk
      rw [e']
      intro q
      have := ((hold i hi').2 g hgk).1.2
      have := (hrn.2 g q).1.1
      omega
    · rw [e] at hgk
      rw [e']
      intro q
      have := ((hold j hj').2 g q).1.2
      have := (hrn.2 g hgk).1.1
      omega
    · omega
  · have c1 := (h1.mono (G := F) (fun _ e => e.elim)).trans h2 (fun k e => .inl (hvF k e).1)
    exact c1.trans hset (fun k e => .inl (by rw [e]; exact hFR))
  · rintro k (hk | hk)
    · exact .inl hk
    · exact .inr hk.1
set_option maxRecDepth 100000 in
set_option maxHeartbeats 1000000 in
theorem put_ok {w : World} {F : Nat → Prop} {p : Value} {L : List Rec} {most : Nat} (h : RT w F p L most) (id : Nat) (hid : id ≤ 65535) (l : List Int) (a : Option Addr) (c : Nat) (hw : RI w (.slice a l.length c) l) (hln : l.length ≤ 8192) (hroom : used (L.map thOf) + (l.length + 1) ≤ most) :
    Calls Try.prog 45 #[p, .int .i64 (id : Int), .slice a l.length c] w (RPost w F p most ((used (L.map thOf) : Int) + 1, 0, L.map thOf ++ [⟨id, l, 0⟩])) := by
  have HU := Lib.hid (fun k => usedR18 (h.chg ((Chg.refl (fun _ => False) w).drewN k) (fun _ _ e => e)))
  have HH := Lib.hid h
  have HW := Lib.hid hw
  obtain ⟨hl, hu⟩ := h.len
  have hm := h.1.1
  obtain ⟨R, av, cv, rfl, c0, c1, hs⟩ := h.see
  have HUS : Hid (∃ u, u = used (L.map thOf)) := ⟨_, rfl⟩
  obtain ⟨u, hue⟩ := HUS.out
  have HUE := Lib.hid hue
  rw [← hue] at HU hroom hu
  have HR1 := Lib.hid hroom
  clear h hs hw hue
  obtain ⟨n, hn⟩ : ∃ n, n = l.length := ⟨_, rfl⟩
  have HNE := Lib.hid hn
  rw [← hn] at HW hroom hln ⊢
  clear hn
  go_enter Try.func45, Try.ntmps45
  go_wp2
  have k1 : IntKind.i64.wrap ((n : Int) + 1) = (n : Int) + 1 := IntWalk.i64_in _ (by omega)
  have k2 : IntKind.i64.wrap ((most : Int) - (u : Int)) = (most : Int) - (u : Int) := IntWalk.i64_in _ (by omega)
  have k3 : decide ((most : Int) - (u : Int) < (n : Int) + 1) = false := decide_eq_false (by omega)
  go_quiet (first | (go_at_call 18; refine Calls.quiet_of_same (HU.out _)))
  clear k1 k2
  go_wp2_with fail
  refine (HU.out nq).mono ?_
  rintro e w1 ⟨rfl, rfl⟩
  have HW1 : Hid (RI (w.drewN nq) (.slice a n c) l) := Lib.hid (HW.out.chg ((Chg.refl (fun _ => False) w).drewN nq) (fun _ _ e => e))
  have HN1 : Hid (([] : List Int).length + l.length ≤ 1048576) := Lib.hid (by rw [← HNE.out]; simp; omega)
  go_wp2_with (at_builtin; refine wpList_appI rfl (.tmp 30) (.tmp 31) rfl (.slice none 0 0) (.slice a n c) [] l rfl rfl (World.ownsRow_nil _ _ _ _) HW1.out HN1.out ?_)
  intro v2 w2 ho hg hloc
  have hc2 : Chg (fun _ => False) w w2 := ((Chg.refl (fun _ => False) w).drewN nq).trans (Chg.grown (F := fun _ => False) hg (fun _ e => by cases e)) (fun _ e => e.elim)
  have HC2 := Lib.hid hc2
  have HO2 : Hid (OI w2 v2 l) := Lib.hid (by simpa using ho)
  have HL2 : Hid (∀ g, v2.ownBlock = some g → w.heap.size ≤ g) := Lib.hid (fun g hgk => by
    rcases hloc with e | e
    · rw [e] at hgk; cases hgk
    · have := Option.some.inj (e.symm.trans hgk)
      exact Nat.le_of_eq this)
  have c1' : w2.cell? ⟨R, 1, none⟩ = some (.slice av L.length cv) := (World.cell?_of_block (hc2.block R (World.block_lt_of_cell? w _ c1) (fun e => e))).trans c1
  obtain ⟨a2, n2, cc2, rfl⟩ := ho.shape3
  have HRT := Lib.hid (HH.out.chg hc2 (fun _ _ e => e))
  have HV1 := Lib.hid c1
  clear ho hg hloc hc2 c0 c1
  have HOR : Hid (OR w2 (.slice av L.length cv) L) := Lib.hid (by
    obtain ⟨_, _, _, R', v', e, hb, hor, _⟩ := HRT.out
    injection e with e
    injection e with e
    injection e with e
    subst e
    unfold World.cell? at c1'
    rw [hb] at c1'
    obtain rfl := Option.some.inj c1'
    exact hor)
  go_wp2_with (at_builtin; refine wpList_appR rfl (.tmp 37) (.tmp 42) rfl (.slice av L.length cv) L w2.heap.size ⟨(u : Int) + 1, id, .slice a2 n2 cc2, 0, l⟩ rfl rfl (HOR.out.chg (Chg.alloc (fun _ => False) w2 _) (fun _ _ e => e)) (fun j => by rw [World.cell?_alloc_mark]) rfl (by omega) ?_)
  intro v3 w3 ho3 hg3 hl3
  have h23 : Chg (fun k => (Value.slice av L.length cv).ownBlock = some k) w2 w3 := (Chg.alloc _ w2 _).trans (Chg.grown (F := fun g => (Value.slice av L.length cv).ownBlock = some g) hg3 (fun _ e => e)) (fun _ e => .inl e)
  obtain ⟨F', r1, r2, r3⟩ := RT.push (r := ⟨(u : Int) + 1, id, .slice a2 n2 cc2, 0, l⟩) HH.out HV1.out HC2.out HO2.out HL2.out h23 ho3 (hl3.elim .inl (fun e => .inr (fun g hg => by
    have := Option.some.inj (e.symm.trans hg)
    have hs : w2.heap.size + 1 = g := by simpa using this
    omega))) (by rw [HUE.out]) hid (by have := HR1.out; have := HUE.out; have := HNE.out; show used (L.map thOf) + (1 + l.length) ≤ most; omega)
  have HPO : Hid (∃ F' L', RT (w3.setCell ⟨R, 1, none⟩ v3) F' (.pointer (some ⟨R, 0, none⟩)) L' most ∧ L'.map thOf = L.map thOf ++ [⟨id, l, 0⟩] ∧ Chg F w (w3.setCell ⟨R, 1, none⟩ v3) ∧ ∀ k, F' k → F k ∨ w.heap.size ≤ k) :=
    Lib.hid ⟨F', _, r1, by rw [List.map_append]; rfl, r2, r3⟩
  have HUV : Hid ((u : Int) + 1 = (used (L.map thOf) : Int) + 1) := Lib.hid (by rw [HUE.out])
  have hcf : (∃ x, w3.cell? ⟨R, 1, none⟩ = some x) ∧ w3.frozen? ⟨R, 1, none⟩ = false := by
    obtain ⟨_, _, hF, R', v', e, hb, hor, hFR, hvF, _⟩ := HRT.out
    injection e with e
    injection e with e
    injection e with e
    subst e
    have hv' : v' = .slice av L.length cv := by
      unfold World.cell? at c1'
      rw [hb] at c1'
      exact Option.some.inj c1'
    subst hv'
    have hb3 := (h23.block R (hF R hFR) (fun e => (hvF R e).2 rfl)).trans hb
    unfold World.cell? World.frozen?
    rw [hb3]
    exact ⟨⟨_, rfl⟩, by simp⟩
  obtain ⟨⟨ox, hcx⟩, hfx⟩ := hcf
  obtain ⟨a3, n3, c3, rfl⟩ : ∃ a n c, v3 = .slice a n c := by obtain ⟨a, c, e, _⟩ := ho3.see; exact ⟨a, _, c, e⟩
  clear ho3 hg3 hl3 h23 r1 r2 r3 c1'
  go_wp2
  go_ret2
  exact ⟨by rw [HUV.out]; rfl, HPO.out⟩
end Go.Proofs.Ytefiliomfiomfac
