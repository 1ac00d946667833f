/- The evaluator on which this proof rests, and its soundness against the model, part d; no conditions. -/
import Derived.Test.YtkhdliicgfmghaaGreatDoorEc
import Derived.OpenShut
import GoSem.ClaimJoined
import Derived.Below
section
namespace Go.Ev
open Go
section
variable {P : Program} {X : Exts} {ρ ρ' : Rho} {j : Nat} {w0 w : World} {cs0 : List Frame} {h h' h1 h2 : Hp} {fn : Nat} {Ms : List Nat} {kd : Nat} {dfs : List AV} {rnd : AV} {todo : List It} {ue : Env} {up : Pd} {u : Ct} {env : Env} {b : Frame} {a : MAct} {cs : List Frame} {mk mks : Mks} {K : List Item}
variable {ops : Array Oper} {l : List DOp} {T T' : List AV} {done forced d' : Nat} {E : Nat → Bool} {il : List Nat} {rs : Mks}
theorem DwI.next {tmps : Array Value} {nt : Nat} (hI : DwI P X ρ j nt Ms env ops l T' d' forced E tmps rs) (r : PassR P env l 0 T done h T' d' h') {x i0 : Nat} {ox o0 : Oper} (hox : ops[x]? = some ox) (hqx : quiet ox.op = false) (hxd : Nat.testBit d' x = false) (hlow : ∀ p, p < x → Nat.testBit d' p = true)
    (ho0 : ops[i0]? = some o0) (hi0 : Nat.testBit d' i0 = false) (hw0 : ∀ q, Nat.testBit (bN ops i0) q = true → E q = true) {sl : Option Nat} {bef : Nat} {q : Bool} {kd : Nat} {g : Option (_root_.Go.Ev.E × Bool)} {e : _root_.Go.Ev.E} {A : Act} {tw : Nat} (hat : l[x]? = some (.mk x sl bef q kd g e A tw)) :
    i0 = x ∨ (tw = i0 + 1) := by
  rcases Nat.lt_trichotomy i0 x with hl | hl | hl
  · rw [hlow i0 hl] at hi0; cases hi0
  · exact .inl hl
  · right
    obtain ⟨tw0, hat0⟩ := hI.at ho0
    have hq0 : quiet o0.op = false := (r.not i0 i0 _ _ _ _ _ _ _ tw0 hat0 (by omega) hi0 fun p hp => hI.sub p (hw0 p hp)).1
    have hnx : Nat.testBit (bN ops i0) x = false := by
      cases hh : Nat.testBit (bN ops i0) x with
      | false => rfl
      | true => rw [hI.sub x (hw0 x hh)] at hxd; cases hxd
    rcases drwB_EffO hI.ok i0 o0 ho0 hq0 with h1 | ⟨k, ok, h1, h2, h3, h4, h5, h6, h7⟩
    · have : Nat.testBit (bN ops i0) x = true := h1 x ox hl hox hqx
      rw [hnx] at this; cases this
    · have hxk : x = k := by
        rcases Nat.decEq x k with hne | he
        · exfalso
          have : Nat.testBit (bN ops i0) x = true := h7 x ox hl hne hox hqx
          rw [hnx] at this; cases this
        · exact he
      subst hxk
      exact (hI.twx hox hat).1 i0 o0 ho0 hl hqx hq0 (fun p op a1 a2 a3 => h6 p op a1 a2 a3) hnx
theorem DwI.twi {tmps : Array Value} {nt : Nat} (hI : DwI P X ρ j nt Ms env ops l T' d' forced E tmps rs) {x y : Nat} {ox : Oper} (hox : ops[x]? = some ox) (hqx : quiet ox.op = false) {sl : Option Nat} {bef : Nat} {q : Bool} {kd : Nat} {g : Option (_root_.Go.Ev.E × Bool)} {e : _root_.Go.Ev.E} {A : Act} {tw : Nat}
    (hat : l[x]? = some (.mk x sl bef q kd g e A tw)) (htw : tw = y + 1) : ∃ oy, ops[y]? = some oy ∧ x < y ∧ isStG ox = true ∧ isStG oy = true := by
  obtain ⟨oy, h1, h2, h3, h4, h5⟩ := (hI.twx hox hat).2 y htw
  rcases drwB_EffO hI.ok y oy h1 h3 with h6 | ⟨k, ok, a1, a2, a3, a4, a5, a6, a7⟩
  · have : Nat.testBit (bN ops y) x = true := h6 x ox h2 hox hqx
    rw [h4] at this; cases this
  · have hxk : x = k := by
      rcases Nat.decEq x k with hne | he
      · exfalso
        have : Nat.testBit (bN ops y) x = true := a7 x ox h2 hne hox hqx
        rw [h4] at this; cases this
      · exact he
    subst hxk
    rw [hox] at a2; injection a2 with a2; subst a2
    exact ⟨oy, h1, h2, a3, a4⟩
theorem stepD_ok (hX : XS P X) (c : DwC P X j w0 cs0 fn Ms kd dfs rnd todo ue up u env h b a cs w ρ mk mks K ops l T done forced E il rs) :
    ∃ m', Steps P (lone (b.atR a (.inRegion ops il :: K)) cs w) m' ∧ SxR P X j w0 cs0 (stepD P (.mk l T done forced) env (.mk fn Ms kd dfs rnd todo ue up u) h) m' := by
  have badd : ∀ {s : Sx}, (∃ q, s = .bad q) → ∃ m', Steps P (lone (b.atR a (.inRegion ops il :: K)) cs w) m' ∧ SxR P X j w0 cs0 s m' := fun ⟨q, e⟩ => ⟨_, .refl P _, by rw [e]; exact .bad⟩
  have U : stepD P (.mk l T done forced) env (.mk fn Ms kd dfs rnd todo ue up u) h = dPass env l T done h (fun w => .bad w) (fun T done' h =>
    bc (dStay env T done done' forced h l) (dNext done' (.at_ (dOuts T l env) (.mk fn Ms kd dfs rnd todo ue up u) h) (dEff P l T done' forced env (.mk fn Ms kd dfs rnd todo ue up u) h) l) (.bad 124)) := rfl
  rw [U]
  rcases pass_ok (P := P) (k := fun T done' h => bc (dStay env T done done' forced h l) (dNext done' (.at_ (dOuts T l env) (.mk fn Ms kd dfs rnd todo ue up u) h) (dEff P l T done' forced env (.mk fn Ms kd dfs rnd todo ue up u) h) l) (.bad 124))
      l 0 T done h ⟨ρ, j, _, _, c.c.hr⟩ (fun q i sl bef qt kd g e a tw hq => c.hI.dok hq) (by rw [c.hI.llen, c.hI.len]; omega) with hb | ⟨T', d', h', he, r⟩
  · exact badd hb
  · rw [he]
    obtain ⟨rs1, c1⟩ := c.pass r
    cases hst : dStay env T' done d' forced h' l with
    | false => exact badd ⟨_, rfl⟩
    | true =>
      rw [bc_t]
      have hS := stAll_of c1.hI r hst
      obtain ⟨a2, w2, ρ2, E2, il2, rs2, s2, c2, hE2, hend⟩ := pend_run hX il c1 hS
      have tr : ∀ {x : Sx}, (∃ m', Steps P (lone (b.atR a2 (.inRegion ops il2 :: K)) cs w2) m' ∧ SxR P X j w0 cs0 x m') → ∃ m', Steps P (lone (b.atR a (.inRegion ops il :: K)) cs w) m' ∧ SxR P X j w0 cs0 x m' := fun ⟨m', s3, r⟩ => ⟨m', s2.trans s3, r⟩
      have hI := c2.hI
      rcases dNext_inv (d := d') (n := (.at_ (dOuts T' l env) (.mk fn Ms kd dfs rnd todo ue up u) h' : Sx)) (f := dEff P l T' d' forced env (.mk fn Ms kd dfs rnd todo ue up u) h') l with ⟨e1, hall⟩ | ⟨q, i, sl, bef, qt, kd1, g, e, A, tw, hat, e1, hxd, hbelow⟩
      · -- all is done
        rw [e1]
        have hd : ∀ i, i < ops.size → Nat.testBit d' i = true := fun i hi => by
          obtain ⟨tw, hat⟩ := hI.at (Array.getElem?_eq_getElem hi)
          exact hall i i _ _ _ _ _ _ _ tw hat
        have hil : il2 = [] := by
          rcases hend with h | ⟨i, il3, h, hi⟩
          · exact h
          · exfalso
            subst h
            have hL := c2.hL
            cases hL with
            | op ho => rw [hd i (Array.getElem?_eq_some_iff.1 ho).1] at hi; cases hi
        subst hil
        have hE : ∀ i, i < ops.size → E2 i = true := by
          have hL := c2.hL
          cases hL with
          | done h => exact h
        exact tr ⟨_, .one stepR_region_end, .at_ c2.c (hI.outs c2.c.fb.mslen hE) c2.hk⟩
      · rw [e1]
        obtain ⟨o, ho, rfl, _, hb, hq, hkd, hg, hee, hAA⟩ := hI.is hat
        have hi := (Array.getElem?_eq_some_iff.1 ho).1
        have hlow : ∀ p, p < i → Nat.testBit d' p = true := fun p hp => by
          obtain ⟨tw, hat⟩ := hI.at (Array.getElem?_eq_getElem (show p < ops.size by omega))
          exact hbelow p p _ _ _ _ _ _ _ tw hp hat
        have hsub : ∀ p, Nat.testBit bef p = true → Nat.testBit d' p = true := fun p hp => hlow p (by rw [hb] at hp; exact bN_lt (drwB_backE hI.ok) i hi p hp)
        obtain ⟨hqf, hg2⟩ := r.not i i sl bef qt kd1 g e A tw hat (by omega) hxd hsub
        rw [hqf] at hq
        have hqx : quiet o.op = false := hq.symm
        have V : dEff P l T' d' forced env (.mk fn Ms kd dfs rnd todo ue up u) h' (.mk i sl bef qt kd1 g e A tw) = bc (sub bef d') (nC tw (eff1 P l T' d' forced env (.mk fn Ms kd dfs rnd todo ue up u) h' i bef kd1 e A) (fun y => dAt y (.bad 128) (eff2 l T' d' forced env (.mk fn Ms kd dfs rnd todo ue up u) h' i bef e A) l)) (.bad 123) := rfl
        rw [V, sub_of hsub, bc_t]
        rcases hend with rfl | ⟨i0, il3, rfl, hi0⟩
        · exfalso
          have hL := c2.hL
          cases hL with
          | done h => rw [hI.sub i (h i hi)] at hxd; cases hxd
        · have hL := c2.hL
          cases hL with
          | @op _ _ _ o0 ho0 hn0 hb0 hL0 =>
            have hw0 := hI.cl.wait ho0 hb0 hn0
            have hnext := hI.next r ho hqx hxd hlow ho0 hi0 hw0 hat
            cases tw with
            | zero =>
              have : i0 = i := by
                rcases hnext with h | h
                · exact h
                · omega
              subst this
              refine tr ?_
              show ∃ m', _ ∧ SxR P X j w0 cs0 (eff1 P l T' d' forced env (.mk fn Ms kd dfs rnd todo ue up u) h' i0 bef kd1 e A) m'
              rw [hb, hkd, hee, hAA]
              exact eff1_ok hX c2 hxd ho (by rw [← hg]; exact hg2) hqx
            | succ y =>
              show ∃ m', _ ∧ SxR P X j w0 cs0 (dAt y (.bad 128) (eff2 l T' d' forced env (.mk fn Ms kd dfs rnd todo ue up u) h' i bef e A) l) m'
              obtain ⟨oy, hoy, hxy, hsx, hsy⟩ := hI.twi ho hqx hat rfl
              rcases dAt_inv (y := y) (n := (.bad 128 : Sx)) (f := eff2 l T' d' forced env (.mk fn Ms kd dfs rnd todo ue up u) h' i bef e A) l with h | ⟨k, sl2, bef2, q2, kd2, g2, e2, A2, tw2, h3, h4⟩
              · rw [h]; exact badd ⟨_, rfl⟩
              · rw [h4]
                obtain ⟨oy', hoy', rfl, _, hb2, _, _, _, hee2, hAA2⟩ := hI.is h3
                rw [hoy] at hoy'; injection hoy' with hoy'; subst hoy'
                rw [hb, hee, hAA, hb2, hee2, hAA2]
                have hS2 : StAll env l d' E2 T' h' := fun p sl bef q kd g e A tw a1 a2 a3 a4 => hS p sl bef q kd g e A tw a1 a2 (by
                  cases hh : E p with
                  | false => rfl
                  | true => rw [hE2 p hh] at a3; cases a3) a4
                refine tr (eff2_ok hX c2 hS2 hxd (by omega) ho hoy hsx hsy ?_)
                rcases hnext with h | h
                · exact .inl h
                · exact .inr (by omega)
theorem topsA_len : ∀ l : List DOp, (topsA l).length = l.length
  | [] => rfl
  | _ :: l => by show (topsA l).length + 1 = _; rw [topsA_len l]; rfl
theorem dok (hX : XS P X) (hm : P.follows .mixedOrders = true) : DOK P X j w0 cs0 := by
  refine ⟨?_, fun d env c h m hs => ?_⟩
  · intro ρ w h env fn Ms kd dfs rnd todo ue up u b a cs mk mks c ht id ops k K hk hd hs
    have c' : Cur P X j w0 cs0 fn Ms kd dfs rnd ue up u h b a cs { w with drawn := w.drawn + 1 } ρ mk mks := ⟨c.fb, c.df, c.st, c.hr, c.gl, ⟨c.wk.os, c.wk.out, c.wk.tape, c.wk.low⟩, c.mk', c.bt⟩
    refine ⟨_, .one stepR_region_draw, ?_⟩
    rw [hm]
    have hl : (dops P X Ms ops.toList 0 [] []).length = ops.size := by rw [dops_len]; simp
    have hlen : (topsA (tws (dops P X Ms ops.toList 0 [] []))).length = ops.size := by rw [topsA_len, tws_len, hl]
    have z : ∀ i, Nat.testBit 0 i = false := Nat.zero_testBit
    exact .dw (rs := []) ⟨c', hk, lin_schedule (drwB_backE hs) _, ⟨hs, hd, rfl, hlen, .start, (fun i h => by cases h), (fun i h => by rw [z] at h; cases h), (fun i h => by rw [z] at h; cases h), (fun i _ _ _ _ _ _ _ _ _ h => by rw [z] at h; cases h), (fun i _ _ _ _ _ _ _ _ _ h => by rw [z] at h; cases h),
      (fun i n h => by obtain ⟨_, _, _, _, _, _, _, _, _, h, _⟩ := h; rw [z] at h; cases h), (fun i i' n h => by obtain ⟨_, _, _, _, _, _, _, _, _, h, _⟩ := h; rw [z] at h; cases h), .start ht⟩, c.mk'⟩
  · cases hs with
    | dw dc => exact stepD_ok hX dc
end
end Go.Ev
end
section
namespace Go.Ev
open Go
noncomputable def itS (f : Sx → Sx) (k : Nat) : Sx → Sx := Nat.rec (motive := fun _ => Sx → Sx) f (fun _ ih s => Sx.rec (motive := fun _ => Sx) (fun e c h => ih (.at_ e c h)) (fun d e c h => ih (.dw d e c h)) (fun e c h => ih (.re e c h)) .don .bad (ih s)) k
noncomputable def psN (n : Nat) : Ps := Ps.ofNatF 40 (Nat.succ n)
noncomputable def gcT (t : Tr Ob) (L : List Nat) : Tr Ob := List.rec (motive := fun _ => Tr Ob) .e (fun n _ ih => Tr.set .no (psN n) (Tr.get .no (psN n) t) ih) L
noncomputable def gcH (L : List Nat) (h : Hp) : Hp := Hp.cs h fun t n d => .mk (gcT t L) n d
noncomputable def gcS (L : List Nat) (s : Sx) : Sx := Sx.rec (motive := fun _ => Sx) (fun e c h => .at_ e c (gcH L h)) (fun d e c h => .dw d e c (gcH L h)) (fun e c h => .re e c (gcH L h)) .don .bad s
theorem gcT_get (t : Tr Ob) (q : Ps) : ∀ L : List Nat, Tr.get .no q (gcT t L) = Tr.get .no q t ∨ Tr.get .no q (gcT t L) = .no
  | [] => .inr (by cases q <;> rfl)
  | n :: L => by
    have U : gcT t (n :: L) = Tr.set .no (psN n) (Tr.get .no (psN n) t) (gcT t L) := rfl
    rw [U, Tr.get_set]
    by_cases h : psN n = q
    · rw [if_pos h, h]; exact .inl rfl
    · rw [if_neg h]; exact gcT_get t q L
section
variable {P : Program} {X : Exts} {ρ : Rho} {j B0 : Nat} {H : Array Obj} {h : Hp} {w0 : World} {cs0 : List Frame}
theorem HR.gc (hr : HR P ρ j B0 h H) (L : List Nat) : HR P ρ j B0 (gcH L h) H := by
  obtain ⟨t, n, d⟩ := h
  have U : gcH L (.mk t n d) = .mk (gcT t L) n d := rfl
  have g : ∀ q, (gcH L (.mk t n d)).ob q = (Hp.mk t n d).ob q ∨ (gcH L (.mk t n d)).ob q = .no := fun q => gcT_get t q L
  refine ⟨hr.nxl, hr.fresh, hr.dis, fun o => ?_, hr.md, hr.base, fun o ho => ?_, fun o ty k w ms e => ?_⟩
  · rcases g o with e | e
    · rw [e]; exact hr.obs o
    · rw [e]; trivial
  · rcases g o with e | e
    · rw [e]; exact hr.dom o ho
    · exact e
  · rcases g o with e1 | e1
    · rw [e1] at e; exact hr.ids o ty k w ms e
    · rw [e1] at e; cases e
theorem SxR.gc {s : Sx} {m : Machine} (hs : SxR P X j w0 cs0 s m) (L : List Nat) : SxR P X j w0 cs0 (gcS L s) m := by
  cases hs with
  | at_ c ht hk => exact .at_ { c with hr := c.hr.gc L } ht hk
  | dw d => exact .dw { d with c := { d.c with hr := d.c.hr.gc L } }
  | re c ht => exact .re { c with hr := c.hr.gc L } ht
  | don hm hd hk hf hb0 hrun hv hn wk => exact .don hm hd hk hf hb0 hrun hv hn wk
  | bad => exact .bad
theorem itS_ok (hX : XS P X) (hm : P.follows .mixedOrders = true) : ∀ (k : Nat) {s : Sx} {m : Machine}, SxR P X j w0 cs0 s m → ∃ m', Steps P m m' ∧ SxR P X j w0 cs0 (itS (step P X) k s) m'
  | 0, _, _, hs => step_ok hX (dok hX hm).go (dok hX hm).st hs
  | k + 1, s, m, hs => by
    obtain ⟨m1, s1, r1⟩ := itS_ok hX hm k hs
    have U : itS (step P X) (k + 1) s = Sx.rec (motive := fun _ => Sx) (fun e c h => itS (step P X) k (.at_ e c h)) (fun d e c h => itS (step P X) k (.dw d e c h)) (fun e c h => itS (step P X) k (.re e c h)) .don .bad (itS (step P X) k s) := rfl
    rw [U]
    generalize itS (step P X) k s = y at r1 ⊢
    cases y with
    | don v h => exact ⟨m1, s1, r1⟩
    | bad n => exact ⟨m1, s1, .bad⟩
    | at_ e c h => obtain ⟨m2, s2, r2⟩ := itS_ok hX hm k r1; exact ⟨m2, s1.trans s2, r2⟩
    | dw d e c h => obtain ⟨m2, s2, r2⟩ := itS_ok hX hm k r1; exact ⟨m2, s1.trans s2, r2⟩
    | re e c h => obtain ⟨m2, s2, r2⟩ := itS_ok hX hm k r1; exact ⟨m2, s1.trans s2, r2⟩
theorem From.chunk (hX : XS P X) (hm : P.follows .mixedOrders = true) {f : Nat} {args : Array Value} {w : World} {s t : Sx} {k : Nat} {L : List Nat} (hs : From P X j f args w s) (e : gcS L (itS (step P X) k s) = t) : From P X j f args w t := fun cs => by
  obtain ⟨m, s1, r1⟩ := hs cs
  obtain ⟨m', s2, r2⟩ := itS_ok hX hm k r1
  exact ⟨m', s1.trans s2, by rw [← e]; exact r2.gc L⟩
end
noncomputable def cA (c : Code) : Code := match c with | .seq a _ => a | .cond _ a _ => a | .block _ a => a | .loop a => a | .scope a => a | .rangeFunc _ _ a _ => a | c => c
noncomputable def cB (c : Code) : Code := match c with | .seq _ b => b | .cond _ _ b => b | .rangeFunc _ _ _ b => b | c => c
noncomputable def subC (n : Nat) : Nat → Code → Code := Nat.rec (motive := fun _ => Nat → Code → Code) (fun _ c => c) (fun _ ih p c => bc (Nat.ble p 1) c (bc (Nat.beq (Nat.mod p 2) 0) (ih (Nat.div p 2) (cA c)) (ih (Nat.div p 2) (cB c)))) n
noncomputable def bodyF (P : Program) (f : Nat) : Code := match P.funcs[f]? with | some fn => (match fn.body with | some c => c | none => .skip) | none => .skip
noncomputable def cP (P : Program) (f p : Nat) : Code := subC 200 p (bodyF P f)
noncomputable def opsP (P : Program) (f p : Nat) : List Oper := match cP P f p with | .region _ ops _ => ops.toList | _ => []
noncomputable def stN (i : Nat) : St → St := Nat.rec (motive := fun _ => St → St) (fun s => s) (fun _ ih s => St.rec (motive := fun _ => St) (fun o => .fin o) (fun _ k _ => ih k) (fun _ _ _ k _ => ih k) (fun _ k _ => ih k) (fun _ _ _ k _ => ih k) s) i
noncomputable def stP (P : Program) (X : Exts) (f p i : Nat) : St := stN i (comp P X (fnMs P f) (opsP P f p) (opsP P f p) [] 0)
noncomputable def drP (P : Program) (X : Exts) (f p : Nat) : List DOp := tws (dops P X (fnMs P f) (opsP P f p) 0 [] [])
noncomputable def mkE (l : List (Nat × AV)) : Env := List.rec (motive := fun _ => Env) env0 (fun x _ ih => setS x.1 x.2 ih) l
noncomputable def mkH (l : List (Nat × Ob)) (nx md : Nat) : Hp := .mk (List.rec (motive := fun _ => Tr Ob) .e (fun x _ ih => Tr.set .no (psN x.1) x.2 ih) l) (psN nx) md
noncomputable def pp (o m f : Nat) : AV := .p (psN o) m f
noncomputable def ss (o m f l c : Nat) : AV := .sl (psN o) m f l c
noncomputable def mm (o : Nat) : AV := .m (psN o)
noncomputable def nn3 (n : Nat) : AV := .i 3 n
noncomputable def oc (t k : Nat) (w : Bool) (n : Nat) (els : List (List AV)) : Ob := .c t k w [.mk 0 n (pushB els 0 .e)]
end Go.Ev
end
section
namespace Go.Ev
open Go
noncomputable def subL1 (j : Nat) (v v' : AV) : Bool := AV.cX v' (AV.cX v false (fun w _ vs => bc (Nat.beq w 4) (beqA (nthA j vs) v') false)) (fun w' _ vs' => bc (Nat.beq w' 4) (bc (isTop v) false (beqA (nthA j vs') v)) (AV.cX v false (fun w _ vs => bc (Nat.beq w 4) (beqA (nthA j vs) v') false)))
noncomputable def subV (j : Nat) (v v' : AV) : Bool := bc (isTop v') true (bc (beqA v v') true (subL1 j v v'))
noncomputable def subVs (j : Nat) (l : List AV) : List AV → Bool := lR l (fun l' => lC l' true (fun _ _ => false)) (fun x _ ih l' => lC l' false (fun y l' => andB (subV j x y) (ih l')))
noncomputable def subE (j : Nat) (e e' : Env) (n : Nat) : Bool := nR n true (fun k ih => andB (subV j (sget k e) (sget k e')) ih)
section
variable {P : Program} {X : Exts} {ρ : Rho} {j B0 : Nat} {H : Array Obj} {h : Hp} {w0 : World} {cs0 : List Frame}
theorem nthA_at {j : Nat} {vs : List AV} {v : AV} (e : nthA j vs = v) (hv : v ≠ top) : vs[j]? = some v := by
  rw [nthA_eq] at e
  cases hq : vs[j]? with
  | none => rw [hq] at e; exact absurd e.symm hv
  | some x => rw [hq] at e; rw [← e]; rfl
theorem subV_ok {v v' : AV} {x : Value} (hs : subV j v v' = true) (h : VR ρ j v x) : VR ρ j v' x := by
  have U : subV j v v' = bc (isTop v') true (bc (beqA v v') true (subL1 j v v')) := rfl
  rw [U] at hs
  cases ht : isTop v' with
  | true => rw [(isTop_eq v').1 ht]; exact .top _
  | false =>
    rw [ht, bc_f] at hs
    cases hb : beqA v v' with
    | true => rw [← beqA_eq v v' hb]; exact h
    | false =>
      rw [hb, bc_f] at hs
      have one : AV.cX v false (fun w _ vs => bc (Nat.beq w 4) (beqA (nthA j vs) v') false) = true → VR ρ j v' x := by
        intro hs
        cases v with
        | x w t vs =>
          have hs : bc (Nat.beq w 4) (beqA (nthA j vs) v') false = true := hs
          cases hw : Nat.beq w 4 with
          | false => rw [hw] at hs; cases hs
          | true =>
            rw [hw, bc_t] at hs
            have := Nat.eq_of_beq_eq_true hw
            subst this
            obtain ⟨u, hu, hv⟩ := h.lane
            have e := beqA_eq _ _ hs
            rw [nthA_eq, hu] at e
            rw [← e]; exact hv
        | _ => cases hs
      cases v' with
      | x w' t' vs' =>
        have hs2 : bc (Nat.beq w' 4) (bc (isTop v) false (beqA (nthA j vs') v)) (AV.cX v false (fun w _ vs => bc (Nat.beq w 4) (beqA (nthA j vs) (.x w' t' vs')) false)) = true := hs
        cases hw : Nat.beq w' 4 with
        | false => rw [hw, bc_f] at hs2; exact one hs2
        | true =>
          rw [hw, bc_t] at hs2
          have h4 := Nat.eq_of_beq_eq_true hw
          cases hv : isTop v with
          | true => rw [hv] at hs2; cases hs2
          | false =>
            rw [hv, bc_f] at hs2
            have hn := isTop_f hv
            rw [h4]
            exact .lanes (nthA_at (beqA_eq _ _ hs2) hn) h hn
      | _ => exact one hs
theorem subVs_ok : ∀ {l l' : List AV}, subVs j l l' = true → l.length = l'.length ∧ ∀ k x, VR ρ j (nthA k l) x → VR ρ j (nthA k l') x
  | [], [], _ => ⟨rfl, fun _ _ h => h⟩
  | [], _ :: _, h => by cases h
  | _ :: _, [], h => by cases h
  | a :: l, b :: l', h => by
    have h : andB (subV j a b) (subVs j l l') = true := h
    obtain ⟨h1, h2⟩ := andOf h
    obtain ⟨h3, h4⟩ := subVs_ok h2
    refine ⟨by simp [h3], fun k x hk => ?_⟩
    cases k with
    | zero => exact subV_ok h1 hk
    | succ k => exact h4 k x hk
theorem subE_ok {e e' : Env} : ∀ {n : Nat}, subE j e e' n = true → ∀ k, k < n → ∀ x, VR ρ j (sget k e) x → VR ρ j (sget k e') x
  | 0, _, k, hk, _, _ => by omega
  | n + 1, h, k, hk, x, hx => by
    have h : andB (subV j (sget n e) (sget n e')) (subE j e e' n) = true := h
    obtain ⟨h1, h2⟩ := andOf h
    rcases Nat.lt_or_ge k n with hl | hl
    · exact subE_ok h2 k hl x hx
    · obtain rfl : k = n := by omega
      exact subV_ok h1 hx
theorem HR.up {t : Tr Ob} {n n' : Ps} {d d' : Nat} (hr : HR P ρ j B0 (.mk t n d) H) (hn : n.num ≤ n'.num) (hd : d ≤ d') : HR P ρ j B0 (.mk t n' d') H :=
  ⟨Nat.le_trans hr.nxl hn, fun o m p e => by have := hr.fresh o m p e; exact ⟨Nat.lt_of_lt_of_le this.1 hn, Nat.lt_of_lt_of_le this.2.1 hd, this.2.2⟩, hr.dis, hr.obs, Nat.le_trans hr.md hd, hr.base, fun o ho => hr.dom o (Nat.le_trans hn ho), fun o t k w ms e me hm => Nat.lt_of_lt_of_le (hr.ids o t k w ms e me hm) hd⟩
noncomputable def envS (j : Nat) (e' : Env) (n' : Ps) (d' : Nat) (s : Sx) : Sx := Sx.rec (motive := fun _ => Sx) (fun e c h => bc (subE j e e' 64) (Hp.cs h fun t n d => bc (andB (Nat.ble n.num n'.num) (Nat.ble d d')) (.at_ e' c (.mk t n' d')) (.bad 161)) (.bad 162)) (fun _ _ _ _ => .bad 163) (fun _ _ _ => .bad 163) (fun _ _ => .bad 163) .bad s
theorem SxR.env {s : Sx} {m : Machine} (hs : SxR P X j w0 cs0 s m) (e' : Env) (n' : Ps) (d' : Nat) : SxR P X j w0 cs0 (envS j e' n' d' s) m := by
  cases hs with
  | @at_ e h fn Ms kd dfs rnd todo ue up u b a cs w ρ mk mks K c ht hk =>
    obtain ⟨t, n, d⟩ := h
    have U : envS j e' n' d' (.at_ e (.mk fn Ms kd dfs rnd todo ue up u) (.mk t n d)) = bc (subE j e e' 64) (bc (andB (Nat.ble n.num n'.num) (Nat.ble d d')) (.at_ e' (.mk fn Ms kd dfs rnd todo ue up u) (.mk t n' d')) (.bad 161)) (.bad 162) := rfl
    rw [U]
    cases h1 : subE j e e' 64 with
    | false => exact .bad
    | true =>
      rw [bc_t]
      cases h2 : andB (Nat.ble n.num n'.num) (Nat.ble d d') with
      | false => exact .bad
      | true =>
        rw [bc_t]
        obtain ⟨h3, h4⟩ := andOf h2
        refine .at_ { c with hr := c.hr.up (Nat.le_of_ble_eq_true h3) (Nat.le_of_ble_eq_true h4) } (fun t k hk => ?_) hk
        have hlt := ixOf_lt hk
        have := c.fb.mslen
        exact subE_ok h1 k (by omega) _ (ht t k hk)
  | _ => exact .bad
noncomputable def cellH (j : Nat) (o : Ps) (e : Nat) (vs : List AV) (h : Hp) (d : Sx) (f : Hp → Sx) : Sx := Ob.cC (h.ob o) d (fun t k w ms => lC ms d (fun a r => lC r (Me.cs a (fun i n tr => bc (Nat.ble (Nat.succ e) n) (bc (subVs j (tr.get e) vs) (f (h.put o (.c t k w [.mk i n (tr.set vs e)]))) d) d)) (fun _ _ => d)))
noncomputable def cellS (j : Nat) (o : Ps) (e : Nat) (vs : List AV) (s : Sx) : Sx := Sx.rec (motive := fun _ => Sx) (fun env c h => cellH j o e vs h (.bad 164) (fun h => .at_ env c h)) (fun _ _ _ _ => .bad 163) (fun _ _ _ => .bad 163) (fun _ _ => .bad 163) .bad s
theorem HR.cellv {o : Ps} {t k : Nat} {w : Bool} {i n e : Nat} {tr : Bt} {vs : List AV} (hr : HR P ρ j B0 h H) (ho : h.ob o = .c t k w [.mk i n tr]) (he : e < n) (hs : subVs j (tr.get e) vs = true) : HR P ρ j B0 (h.put o (.c t k w [.mk i n (tr.set vs e)])) H := by
  have cr : CR ρ j B0 H o k w [.mk i n tr] := by
    have := hr.obs o; rw [ho] at this; exact this
  have htr : TrOK k n tr := cr.tr (.mk i n tr) (by simp)
  obtain ⟨h1, h2⟩ := subVs_ok (ρ := ρ) hs
  have hl : vs.length = k := by rw [← h1]; exact htr.len e he
  have hp := set_put htr cr.pos hl he
  have hn := Hp.put_nx h o (.c t k w [.mk i n (tr.set vs e)])
  have crn : CR ρ j B0 H o k w [.mk i n (tr.set vs e)] := by
    refine ⟨cr.pos, cr.kk, cr.low, fun me hm => ?_, fun me hm B Y hl' => ?_, by simp⟩
    · obtain rfl : me = .mk i n (tr.set vs e) := by simpa using hm
      exact hp.1
    · obtain rfl : me = .mk i n (tr.set vs e) := by simpa using hm
      obtain ⟨cs, hb, hx, hc⟩ := cr.mem (.mk i n tr) (by simp) B Y hl'
      refine ⟨cs, hb, hx, fun q hq => ?_⟩
      obtain ⟨v, hv, hvr⟩ := hc q hq
      refine ⟨v, hv, ?_⟩
      show VR ρ j (cell k (tr.set vs e) q) v
      rw [hp.2 q hq]
      split
      · rename_i hh
        have hk := cr.pos
        have hdiv : q / k = e := by
          have h3 : e * k ≤ q := hh.1
          have h4 : q < e * k + k := by have := hh.2; rw [hl] at this; exact this
          exact Nat.div_eq_of_lt_le h3 (by rw [Nat.succ_mul]; exact h4)
        have hmod : q % k = q - e * k := by
          have := Nat.div_add_mod q k
          rw [hdiv, Nat.mul_comm] at this; omega
        have hvr' : VR ρ j (nthA (q % k) (tr.get (q / k))) v := hvr
        rw [hdiv, hmod] at hvr'
        have := h2 _ _ hvr'
        rw [nthA_eq] at this
        exact this
      · exact hvr
  exact (hr.upd (o := o) (ob := .c t k w [.mk i n (tr.set vs e)]) (h' := h.put o (.c t k w [.mk i n (tr.set vs e)])) (ρ' := ρ) (H' := H) (fun q => Hp.ob_put _ _ _ _) (by rw [hn.1]; exact Nat.le_refl _) (by rw [hn.2]; exact Nat.le_refl _) ρ.le_refl (Nat.le_refl _) (fun _ _ _ _ h => h)
    (fun m p e => by have := hr.fresh _ m p e; rw [hn.1, hn.2]; exact ⟨this.1, this.2.1, this.2.2, .inl ⟨m, p.2, e⟩⟩) (fun _ _ _ => rfl) crn (.inl (by rw [hn.1]; exact hr.lt ho (by intro h; cases h)))
    (fun t2 k2 w2 ms2 e2 me hm => by
      injection e2 with _ _ _ e2
      subst e2
      obtain rfl : me = .mk i n (tr.set vs e) := by simpa using hm
      rw [hn.2]; exact hr.ids o _ _ _ _ ho (.mk i n tr) (by simp))).1
theorem SxR.cell {s : Sx} {m : Machine} (hs : SxR P X j w0 cs0 s m) (o : Ps) (e : Nat) (vs : List AV) : SxR P X j w0 cs0 (cellS j o e vs s) m := by
  cases hs with
  | @at_ env h fn Ms kd dfs rnd todo ue up u b a cs w ρ mk mks K c ht hk =>
    have U : cellS j o e vs (.at_ env (.mk fn Ms kd dfs rnd todo ue up u) h) = cellH j o e vs h (.bad 164) (fun h => .at_ env (.mk fn Ms kd dfs rnd todo ue up u) h) := rfl
    rw [U]
    unfold cellH
    cases ho : h.ob o with
    | c t k w ms =>
      match ms, ho with
      | [], _ => exact .bad
      | [.mk i n tr], ho =>
        show SxR P X j w0 cs0 (bc (Nat.ble (Nat.succ e) n) (bc (subVs j (tr.get e) vs) (.at_ env (.mk fn Ms kd dfs rnd todo ue up u) (h.put o (.c t k w [.mk i n (tr.set vs e)]))) (.bad 164)) (.bad 164)) _
        cases h1 : Nat.ble (Nat.succ e) n with
        | false => exact .bad
        | true =>
          rw [bc_t]
          cases h2 : subVs j (tr.get e) vs with
          | false => exact .bad
          | true => exact .at_ { c with hr := c.hr.cellv ho (Nat.le_of_ble_eq_true h1) h2 } ht hk
      | .mk i n tr :: _ :: _, _ => exact .bad
    | _ => exact .bad
  | _ => exact .bad
theorem From.env {f : Nat} {args : Array Value} {w : World} {s t : Sx} {e' : Env} {n' : Ps} {d' : Nat} (hs : From P X j f args w s) (e : envS j e' n' d' s = t) : From P X j f args w t := fun cs => by
  obtain ⟨m, s1, r1⟩ := hs cs
  exact ⟨m, s1, by rw [← e]; exact r1.env e' n' d'⟩
theorem From.cell {f : Nat} {args : Array Value} {w : World} {s t : Sx} {o : Ps} {e : Nat} {vs : List AV} (hs : From P X j f args w s) (eq : cellS j o e vs s = t) : From P X j f args w t := fun cs => by
  obtain ⟨m, s1, r1⟩ := hs cs
  exact ⟨m, s1, by rw [← eq]; exact r1.cell o e vs⟩
end
end Go.Ev
end
section
namespace Go.Ev
open Go
noncomputable def cvL : Lit → AV
  | .bool b => .b b
  | .int k z => bc (rngB k z) (AV.i (kcode k) (cvI k z)) top
  | .string l => mkS l.length (strC l 0)
  | _ => top
noncomputable def cvD1 : DataW Unit → List AV
  | .lit l => [cvL l]
  | _ => [top]
noncomputable def cvD2 : DataW Unit → List AV
  | .agg ds => ds.flatMap cvD1
  | _ => [top]
noncomputable def cvA (f : DataW Unit → List AV) : DataW Unit → List AV
  | .agg ds => ds.flatMap f
  | _ => []
section
variable {P : Program} {ρ : Rho} {j : Nat} {w : World} {base : Nat} {sp : Nat → Bool} {held : Bool} {fuel : Nat} {t e : TypeId} {cs : List Value} {d : DataW Unit} {p : List MemPlace} {enc : TypeId × Value → Unit}
theorem chunks {s : Nat} {f : DataW Unit → List AV} : ∀ (ds : List (DataW Unit)) (cs : List Value), cs.length = ds.length * s → (∀ i d, ds[i]? = some d → VRs ρ j (f d) ((cs.drop (i * s)).take s)) → VRs ρ j (ds.flatMap f) cs
  | [], cs, hl, _ => by
    have : cs = [] := List.length_eq_zero_iff.1 (by simpa using hl)
    subst this; exact .nil
  | d :: ds, cs, hl, h => by
    rw [List.length_cons, Nat.succ_mul] at hl
    have h0 := h 0 d rfl
    rw [Nat.zero_mul, List.drop_zero] at h0
    have hr := chunks (s := s) (f := f) ds (cs.drop s) (by rw [List.length_drop, hl]; omega) fun i d hd => by
      have := h (i + 1) d (by simpa using hd)
      rw [List.drop_drop, show s + i * s = (i + 1) * s by rw [Nat.succ_mul]; omega]; exact this
    rw [List.flatMap_cons]
    have := h0.append hr
    rwa [List.take_append_drop] at this
theorem lit_vr (v : Value) {l : Lit} (h : cvL l = cvt 5 v) : VRs ρ j (cvD1 (.lit l)) [v] := by
  show VRs ρ j [cvL l] [v]
  rw [h]; exact .cons (cvt_ok 5 v) .nil
theorem laid_int {k : IntKind} (ht : P.underlying t = some (.int k)) (h : DataW.trod enc P w base sp held fuel t cs = some (d, p)) : VRs ρ j (cvD1 d) cs := by
  obtain ⟨n, rfl, hx, _⟩ := DataW.trod_int ht h
  injection hx with h1 _
  subst h1
  exact lit_vr _ rfl
theorem laid_str (ht : P.underlying t = some .string) (h : DataW.trod enc P w base sp held fuel t cs = some (d, p)) : VRs ρ j (cvD1 d) cs := by
  obtain ⟨s, rfl, hx, _⟩ := DataW.trod_string ht h
  injection hx with h1 _
  subst h1
  exact lit_vr _ rfl
theorem laid_array {n s : Nat} {f : DataW Unit → List AV} (ht : P.underlying t = some (.array n e)) (hs : P.cellsOf e = s) (hn : P.cellsOf t = n * s) (hf : ∀ {fuel : Nat} {cs : List Value} {d : DataW Unit} {p : List MemPlace}, DataW.trod enc P w base sp held fuel e cs = some (d, p) → VRs ρ j (f d) cs)
    (h : DataW.trod enc P w base sp held fuel t cs = some (d, p)) : VRs ρ j (cvA f d) cs := by
  obtain ⟨xs, m, _, hx, hl, hxl, hel⟩ := DataW.trod_array ht h
  injection hx with h1 _
  subst h1
  show VRs ρ j ((xs.map (·.1)).flatMap f) cs
  refine chunks _ cs (by rw [hl, hn, List.length_map, hxl]) fun i d hd => ?_
  rw [List.getElem?_map] at hd
  cases hxi : xs[i]? with
  | none => rw [hxi] at hd; cases hd
  | some y =>
    rw [hxi] at hd
    have hi : i < n := by rw [← hxl]; exact (List.getElem?_eq_some_iff.1 hxi).1
    have h2 := hel i hi
    rw [hs, hxi] at h2
    have hdy : y.1 = d := by simpa using hd
    subst hdy
    exact hf (p := y.2) h2
theorem laid_pair {f0 f1 : Field} {k : IntKind} (ht : P.underlying t = some (.struct #[f0, f1])) (h0 : P.underlying f0.type = some .string) (h1 : P.underlying f1.type = some (.int k)) (hc : P.cellsOf t = 2) (c0 : P.cellsOf f0.type = 1) (c1 : P.cellsOf f1.type = 1) (o0 : f0.offset = 0) (o1 : f1.offset = 1)
    (h : DataW.trod enc P w base sp held fuel t cs = some (d, p)) : VRs ρ j (cvD2 d) cs := by
  obtain ⟨xs, n, _, hx, hl, hxl, hel⟩ := DataW.trod_struct ht h
  injection hx with hx1 _
  subst hx1
  rw [hc] at hl
  match cs, hl with
  | [a, b], _ =>
    match xs, hxl with
    | [x, y], _ =>
      have e0 := hel 0 f0 rfl
      have e1 := hel 1 f1 rfl
      rw [o0, c0] at e0
      rw [o1, c1] at e1
      have v0 : VRs ρ j (cvD1 x.1) [a] := laid_str (p := x.2) h0 e0
      have v1 : VRs ρ j (cvD1 y.1) [b] := laid_int (p := y.2) h1 e1
      show VRs ρ j ([x.1, y.1].flatMap cvD1) [a, b]
      have : ([x.1, y.1].flatMap cvD1) = cvD1 x.1 ++ cvD1 y.1 := by simp
      rw [this]
      exact v0.append v1
end
noncomputable def startH (tA kA nA : Nat) (A : Bt) (tB kB nB : Nat) (B : Bt) (nx : Ps) : Hp := .mk (Tr.set .no (Ps.ofNat 1) (.c tB kB false [.mk 0 nB B]) (Tr.set .no (Ps.ofNat 0) (.c tA kA false [.mk 0 nA A]) .e)) nx 1
noncomputable def szW (w : World) (b : Nat) : Nat := match w.heap[b]? with | some (.cells cs _ _) => cs.size | _ => 0
open Classical in
noncomputable def rho0 (w : World) (kA kB : Nat) : Rho := ⟨fun o m => if m = 0 then (if o = Ps.ofNat 0 then some (0, 0) else if o = Ps.ofNat 1 then some (1, 0) else none) else none, fun o => if o = Ps.ofNat 0 then kA else kB, szW w, 0⟩
structure LaidR (w : World) (j g k n : Nat) (l : List AV) : Prop where
  pos : 0 < k
  len : l.length = k * n
  ex : ∃ cs el fz, w.heap[g]? = some (.cells cs el fz) ∧ Fz cs.size fz ∧ ∀ ρ : Rho, VRs ρ j l cs.toList
theorem LaidR.cr {P : Program} {w : World} {j g k n : Nat} {l : List AV} (h : LaidR w j g k n l) {ρ : Rho} {o : Ps} {t : Nat} (hloc : ∀ m p, ρ o m = some p → m = 0 ∧ p = (g, 0)) (hk : ρ.k o = k) (hs : ρ.sz g = szW w g) :
    ObR P ρ j w.heap.size w.heap o (.c t k false [.mk 0 n (pushB (grpL k n l) 0 .e)]) := by
  obtain ⟨g1, g2⟩ := grp_ok h.pos h.len
  refine ⟨h.pos, fun _ _ _ => hk, (fun h => by cases h), fun me hm => ?_, fun me hm B Y e => ?_, by simp⟩
  · obtain rfl : me = .mk 0 n (pushB (grpL k n l) 0 .e) := by simpa using hm
    exact g1
  · obtain rfl : me = .mk 0 n (pushB (grpL k n l) 0 .e) := by simpa using hm
    obtain ⟨_, e2⟩ := hloc _ _ e
    injection e2 with e3 e4
    subst e3; subst e4
    obtain ⟨cs, el, fz, h1, h2, h3⟩ := h.ex
    obtain ⟨h4, h5⟩ := cellsR_list (h3 ρ) h.len g2
    refine ⟨cs, ⟨⟨el, fz, h1, h2⟩, ?_⟩, by rw [Nat.zero_add]; exact h4, h5⟩
    rw [hs]; unfold szW; rw [h1]
theorem HR.start {P : Program} {w : World} {j tA kA nA tB kB nB : Nat} {A B : List AV} (hA : LaidR w j 0 kA nA A) (hB : LaidR w j 1 kB nB B) {nx : Ps} (hnx : 2 < nx.num) :
    HR P (rho0 w kA kB) j w.heap.size (startH tA kA nA (pushB (grpL kA nA A) 0 .e) tB kB nB (pushB (grpL kB nB B) 0 .e) nx) w.heap ∧ GlobR (rho0 w kA kB) := by
  have n0 : (Ps.ofNat 0).num = 1 := rfl
  have n1 : (Ps.ofNat 1).num = 2 := rfl
  have ne : Ps.ofNat 0 ≠ Ps.ofNat 1 := fun e => by have := congrArg Ps.num e; rw [n0, n1] at this; cases this
  have inv : ∀ o m p, rho0 w kA kB o m = some p → m = 0 ∧ ((o = Ps.ofNat 0 ∧ p = (0, 0)) ∨ (o = Ps.ofNat 1 ∧ p = (1, 0))) := by
    intro o m p e
    have e : (if m = 0 then (if o = Ps.ofNat 0 then some (0, 0) else if o = Ps.ofNat 1 then some (1, 0) else none) else none) = some p := e
    by_cases hm : m = 0
    · rw [if_pos hm] at e
      refine ⟨hm, ?_⟩
      by_cases h0 : o = Ps.ofNat 0
      · rw [if_pos h0] at e; injection e with e; exact .inl ⟨h0, e.symm⟩
      · rw [if_neg h0] at e
        by_cases h1 : o = Ps.ofNat 1
        · rw [if_pos h1] at e; injection e with e; exact .inr ⟨h1, e.symm⟩
        · rw [if_neg h1] at e; cases e
    · rw [if_neg hm] at e; cases e
  have s0 : 0 < w.heap.size := by obtain ⟨cs, el, fz, h1, _⟩ := hA.ex; exact (Array.getElem?_eq_some_iff.1 h1).1
  have s1 : 1 < w.heap.size := by obtain ⟨cs, el, fz, h1, _⟩ := hB.ex; exact (Array.getElem?_eq_some_iff.1 h1).1
  have ob : ∀ o, (startH tA kA nA (pushB (grpL kA nA A) 0 .e) tB kB nB (pushB (grpL kB nB B) 0 .e) nx).ob o = if Ps.ofNat 1 = o then .c tB kB false [.mk 0 nB (pushB (grpL kB nB B) 0 .e)] else if Ps.ofNat 0 = o then .c tA kA false [.mk 0 nA (pushB (grpL kA nA A) 0 .e)] else .no := by
    intro o
    show Tr.get Ob.no o (Tr.set Ob.no (Ps.ofNat 1) _ (Tr.set Ob.no (Ps.ofNat 0) _ .e)) = _
    rw [Tr.get_set, Tr.get_set]
    have : Tr.get Ob.no o .e = .no := by cases o <;> rfl
    rw [this]
  have base : w.heap.size ≤ w.heap.size := Nat.le_refl _
  refine ⟨⟨Nat.zero_le _, fun o m p e => ?_, fun o m p o' m' p' e e' hp => ?_, fun o => ?_, Nat.le_refl _, base, fun o ho => ?_, fun o t k wr ms e me hm => ?_⟩, fun g hg => ?_⟩
  · obtain ⟨rfl, ⟨rfl, rfl⟩ | ⟨rfl, rfl⟩⟩ := inv o m p e
    · exact ⟨by rw [n0]; show 1 < nx.num; omega, Nat.zero_lt_one, s0⟩
    · exact ⟨by rw [n1]; show 2 < nx.num; omega, Nat.zero_lt_one, s1⟩
  · obtain ⟨_, ⟨rfl, rfl⟩ | ⟨rfl, rfl⟩⟩ := inv o m p e
    · obtain ⟨_, ⟨rfl, rfl⟩ | ⟨rfl, rfl⟩⟩ := inv o' m' p' e'
      · rfl
      · cases hp
    · obtain ⟨_, ⟨rfl, rfl⟩ | ⟨rfl, rfl⟩⟩ := inv o' m' p' e'
      · cases hp
      · rfl
  · rw [ob]
    by_cases h1 : Ps.ofNat 1 = o
    · rw [if_pos h1]
      subst h1
      refine hB.cr (fun m p e => ?_) ?_ rfl
      · obtain ⟨h0, ⟨h1, _⟩ | ⟨_, h1⟩⟩ := inv _ m p e
        · exact absurd h1.symm ne
        · exact ⟨h0, h1⟩
      · show (if Ps.ofNat 1 = Ps.ofNat 0 then kA else kB) = kB
        rw [if_neg fun e => ne e.symm]
    · rw [if_neg h1]
      by_cases h0 : Ps.ofNat 0 = o
      · rw [if_pos h0]
        subst h0
        refine hA.cr (fun m p e => ?_) ?_ rfl
        · obtain ⟨h0, ⟨_, h1⟩ | ⟨h1, _⟩⟩ := inv _ m p e
          · exact ⟨h0, h1⟩
          · exact absurd h1 ne
        · show (if Ps.ofNat 0 = Ps.ofNat 0 then kA else kB) = kA
          rw [if_pos rfl]
      · rw [if_neg h0]; trivial
  · rw [ob, if_neg, if_neg]
    · intro e; subst e; rw [n0] at ho; have : nx.num ≤ 1 := ho; omega
    · intro e; subst e; rw [n1] at ho; have : nx.num ≤ 2 := ho; omega
  · rw [ob] at e
    show me.id < 1
    by_cases h1 : Ps.ofNat 1 = o
    · rw [if_pos h1] at e
      injection e with _ _ _ e
      subst e
      obtain rfl : me = .mk 0 nB (pushB (grpL kB nB B) 0 .e) := by simpa using hm
      exact Nat.zero_lt_one
    · rw [if_neg h1] at e
      by_cases h0 : Ps.ofNat 0 = o
      · rw [if_pos h0] at e
        injection e with _ _ _ e
        subst e
        obtain rfl : me = .mk 0 nA (pushB (grpL kA nA A) 0 .e) := by simpa using hm
        exact Nat.zero_lt_one
      · rw [if_neg h0] at e; cases e
  · match g, hg with
    | 0, _ =>
      show (if (0 : Nat) = 0 then (if Ps.ofNat 0 = Ps.ofNat 0 then some (0, 0) else if Ps.ofNat 0 = Ps.ofNat 1 then some (1, 0) else none) else none) = _
      rw [if_pos rfl, if_pos rfl]
    | 1, _ =>
      show (if (0 : Nat) = 0 then (if Ps.ofNat 1 = Ps.ofNat 0 then some (0, 0) else if Ps.ofNat 1 = Ps.ofNat 1 then some (1, 0) else none) else none) = _
      rw [if_pos rfl, if_neg (fun e => ne e.symm), if_pos rfl]
end Go.Ev
end
section
namespace Go.Ev
open Go
noncomputable def itL (f : Sx → Sx) (ks : List Nat) : Sx → Sx := List.rec (motive := fun _ => Sx → Sx) (fun s => s) (fun k _ ih s => Sx.rec (motive := fun _ => Sx) (fun e c h => ih (.at_ e c h)) (fun d e c h => ih (.dw d e c h)) (fun e c h => ih (.re e c h)) .don .bad (itS f k s)) ks
noncomputable def nmL (l : List (Nat × Ob)) : List Nat := List.rec (motive := fun _ => List Nat) [] (fun x _ ih => x.1 :: ih) l
section
variable {P : Program} {X : Exts} {j : Nat} {w0 : World} {cs0 : List Frame}
theorem itL_ok (hX : XS P X) (hm : P.follows .mixedOrders = true) : ∀ (ks : List Nat) {s : Sx} {m : Machine}, SxR P X j w0 cs0 s m → ∃ m', Steps P m m' ∧ SxR P X j w0 cs0 (itL (step P X) ks s) m'
  | [], _, m, hs => ⟨m, .refl P _, hs⟩
  | k :: ks, s, m, hs => by
    obtain ⟨m1, s1, r1⟩ := itS_ok hX hm k hs
    have U : itL (step P X) (k :: ks) s = Sx.rec (motive := fun _ => Sx) (fun e c h => itL (step P X) ks (.at_ e c h)) (fun d e c h => itL (step P X) ks (.dw d e c h)) (fun e c h => itL (step P X) ks (.re e c h)) .don .bad (itS (step P X) k s) := rfl
    rw [U]
    generalize itS (step P X) k s = y at r1 ⊢
    cases y with
    | don v h => exact ⟨m1, s1, r1⟩
    | bad n => exact ⟨m1, s1, .bad⟩
    | at_ e c h => obtain ⟨m2, s2, r2⟩ := itL_ok hX hm ks r1; exact ⟨m2, s1.trans s2, r2⟩
    | dw d e c h => obtain ⟨m2, s2, r2⟩ := itL_ok hX hm ks r1; exact ⟨m2, s1.trans s2, r2⟩
    | re e c h => obtain ⟨m2, s2, r2⟩ := itL_ok hX hm ks r1; exact ⟨m2, s1.trans s2, r2⟩
theorem From.run (hX : XS P X) (hm : P.follows .mixedOrders = true) {f : Nat} {args : Array Value} {w : World} {s t : Sx} {ks : List Nat} {L : List Nat} (hs : From P X j f args w s) (e : gcS L (itL (step P X) ks s) = t) : From P X j f args w t := fun cs => by
  obtain ⟨m, s1, r1⟩ := hs cs
  obtain ⟨m', s2, r2⟩ := itL_ok hX hm ks r1
  exact ⟨m', s1.trans s2, by rw [← e]; exact r2.gc L⟩
theorem From.one (hX : XS P X) (hm : P.follows .mixedOrders = true) {f : Nat} {args : Array Value} {w : World} {s t : Sx} {v : AV} (hs : From P X j f args w s) (e : step P X s = bc (isTop v) (.bad 113) t) (hv : isTop v = false) : From P X j f args w t := fun cs => by
  obtain ⟨m, s1, r1⟩ := hs cs
  obtain ⟨m', s2, r2⟩ := itS_ok hX hm 0 r1
  refine ⟨m', s1.trans s2, ?_⟩
  have : itS (step P X) 0 s = step P X s := rfl
  rw [this, e, hv, bc_f] at r2
  exact r2
end
theorem rem10 (u : Nat) (_hu : u < 18446744073709551616) : ∃ c, c < 10 ∧ (int2 3 (fRem 3) (.i 3 u) (.i 3 10) = .i 3 c ∨ (0 < c ∧ int2 3 (fRem 3) (.i 3 u) (.i 3 10) = .i 3 (18446744073709551616 - c))) := by
  have U : int2 3 (fRem 3) (.i 3 u) (.i 3 10) = bc (nn 3 u) (.i 3 (u % 10)) (.i 3 ((18446744073709551616 - (18446744073709551616 - u) % 10) % 18446744073709551616)) := rfl
  rw [U]
  cases nn 3 u with
  | true => exact ⟨u % 10, Nat.mod_lt _ (by omega), .inl rfl⟩
  | false =>
    rw [bc_f]
    have h := Nat.mod_lt (18446744073709551616 - u) (show 0 < 10 by omega)
    generalize (18446744073709551616 - u) % 10 = r at h
    refine ⟨r, h, ?_⟩
    rcases Nat.eq_zero_or_pos r with h0 | h0
    · subst h0; exact .inl rfl
    · exact .inr ⟨h0, by rw [Nat.mod_eq_of_lt (by omega)]⟩
end Go.Ev
end
section
namespace Go.Ev
open Go
section
variable {P : Program} {w : World}
theorem laidVars_at : ∀ {laid : List (String × DataW Unit)} {ps : List MemPlace}, DataW.LaidVars P w laid ps → ∀ {n : String} {d : DataW Unit}, (n, d) ∈ laid →
    ∃ g t cs fuel p, P.globalNamed n = some g ∧ (P.globals[g]?).map (·.type) = some t ∧ w.var? P n = some cs ∧ DataW.trod (fun _ => ()) P w 0 (fun _ => true) false fuel t cs.toList = some (d, p) ∧ ∀ x ∈ MemPlace.row ⟨g, 0, none⟩ cs.size, x ∈ ps
  | [], ps, _, n, d, h => by cases h
  | (n0, d0) :: r, ps, hv, n, d, hm => by
    obtain ⟨g, t, cs, fuel, p, q, h1, h2, h3, h4, h5, rfl⟩ := hv
    rcases List.mem_cons.1 hm with e | hm
    · injection e with e1 e2
      subst e1; subst e2
      exact ⟨g, t, cs, fuel, p, h1, h2, h3, h4, fun x hx => List.mem_append_left _ (List.mem_append_left _ hx)⟩
    · obtain ⟨g, t, cs, fuel, p, a1, a2, a3, a4, a5⟩ := laidVars_at h5 hm
      exact ⟨g, t, cs, fuel, p, a1, a2, a3, a4, fun x hx => List.mem_append_right _ (a5 x hx)⟩
theorem laid_at {laid : List (String × DataW Unit)} (h : laidMet P laid w) {n : String} {d : DataW Unit} (hm : (n, d) ∈ laid) {g : Nat} {t : TypeId} (hg : P.globalNamed n = some g) (ht : (P.globals[g]?).map (·.type) = some t) :
    ∃ cs el fz fuel p, w.heap[g]? = some (.cells cs el fz) ∧ DataW.trod (fun _ => ()) P w 0 (fun _ => true) false fuel t cs.toList = some (d, p) ∧ Fz cs.size fz := by
  obtain ⟨ps, hv, _, hc⟩ := h
  obtain ⟨g', t', cs, fuel, p, h1, h2, h3, h4, h5⟩ := laidVars_at hv hm
  rw [hg] at h1; injection h1 with h1; subst h1
  rw [ht] at h2; injection h2 with h2; subst h2
  have h3' : (match w.heap[g]? with | some (.cells cs _ _) => some cs | _ => none) = some cs := by
    have : w.var? P n = (P.globalNamed n).bind fun g => match w.heap[g]? with | some (.cells cs _ _) => some cs | _ => none := rfl
    rw [this, hg] at h3
    exact h3
  cases hq : w.heap[g]? with
  | none => rw [hq] at h3'; cases h3'
  | some o =>
    rw [hq] at h3'
    cases o with
    | cells cs' el fz =>
      have h3' : some cs' = some cs := h3'
      injection h3' with h3'
      subst h3'
      refine ⟨cs', el, fz, fuel, p, rfl, h4, ?_⟩
      rcases Nat.eq_zero_or_pos cs'.size with h0 | h0
      · exact .inr (by rw [h0]; exact Nat.zero_le _)
      · have hin : MemPlace.cell g 0 ∈ MemPlace.row ⟨g, 0, none⟩ cs'.size := by
          unfold MemPlace.row
          exact List.mem_map.2 ⟨0, List.mem_range.2 h0, rfl⟩
        obtain ⟨⟨c, t, hct⟩, _⟩ := hc g 0 (h5 _ hin)
        rw [hq] at hct
        injection hct with hct
        injection hct with _ _ hct
        rw [hct]; exact .inl rfl
    | _ => cases h3'
theorem laidR_bytes {laid : List (String × DataW Unit)} (h : laidMet P laid w) {n : String} {d : DataW Unit} (hm : (n, d) ∈ laid) {g : Nat} {t e : TypeId} (hg : P.globalNamed n = some g) (ht : (P.globals[g]?).map (·.type) = some t) {N k q : Nat} {ik : IntKind} (j : Nat)
    (hu : P.underlying t = some (.array N e)) (he : P.underlying e = some (.int ik)) (hs : P.cellsOf e = 1) (hn : P.cellsOf t = N * 1) (hk : 0 < k) (hl : (cvA cvD1 d).length = k * q) : LaidR w j g k q (cvA cvD1 d) := by
  obtain ⟨cs, el, fz, fuel, p, h1, h2, h3⟩ := laid_at h hm hg ht
  exact ⟨hk, hl, cs, el, fz, h1, h3, fun ρ => laid_array hu hs hn (fun h => laid_int he h) h2⟩
theorem laidR_pairs {laid : List (String × DataW Unit)} (h : laidMet P laid w) {n : String} {d : DataW Unit} (hm : (n, d) ∈ laid) {g : Nat} {t e : TypeId} (hg : P.globalNamed n = some g) (ht : (P.globals[g]?).map (·.type) = some t) {N k q : Nat} {ik : IntKind} {f0 f1 : Field} (j : Nat)
    (hu : P.underlying t = some (.array N e)) (he : P.underlying e = some (.struct #[f0, f1])) (h0 : P.underlying f0.type = some .string) (h1 : P.underlying f1.type = some (.int ik)) (c0 : P.cellsOf f0.type = 1) (c1 : P.cellsOf f1.type = 1) (o0 : f0.offset = 0) (o1 : f1.offset = 1)
    (hs : P.cellsOf e = 2) (hn : P.cellsOf t = N * 2) (hk : 0 < k) (hl : (cvA cvD2 d).length = k * q) : LaidR w j g k q (cvA cvD2 d) := by
  obtain ⟨cs, el, fz, fuel, p, h1', h2, h3⟩ := laid_at h hm hg ht
  exact ⟨hk, hl, cs, el, fz, h1', h3, fun ρ => laid_array hu hs hn (fun h => laid_pair he h0 h1 hs c0 c1 o0 o1 h) h2⟩
theorem WOK.below {w w' : World} (h : WOK w w') : RowKit.Below w.heap.size w w' := by
  refine ⟨h.os, h.tape, h.out, ?_, h.low⟩
  rcases Nat.eq_zero_or_pos w.heap.size with h0 | h0
  · omega
  · have h1 := h.low (w.heap.size - 1) (by omega)
    rw [Array.getElem?_eq_getElem (show w.heap.size - 1 < w.heap.size by omega)] at h1
    have := (Array.getElem?_eq_some_iff.1 h1).1
    omega
theorem From.row {P : Program} {X : Exts} {j f : Nat} {args : Array Value} {w : World} {b : Bool} {h : Hp} (hs : From P X j f args w (.don (.b b) h)) : Calls P f args w (fun e w' => e = .returned (.bool b) ∧ RowKit.Below w.heap.size w w') :=
  hs.calls.mono fun _ _ ⟨h1, h2⟩ => ⟨h1, h2.below⟩
end
theorem VR.i64 {ρ : Rho} {j : Nat} {z : Int} (h : inR .i64 z) : VR ρ j (.i 3 (uOf .i64 z)) (.int .i64 z) := .i .i64 z h
theorem uOf64_lt (z : Int) : uOf .i64 z < 18446744073709551616 := uOf_lt .i64 z
end Go.Ev
end
section
namespace Go.Ev
open Go
section
variable {P : Program} {X : Exts}
def xokB (P : Program) : Exts → Bool
  | [] => true
  | (t, .st) :: l => stoodOK P 5 t && xokB P l
  | (_, .ixByte) :: l => xokB P l
theorem xok_of : ∀ {X : Exts}, xokB P X = true → XOK P X
  | [], _, t, h => by cases h
  | (g, .st) :: l, hb, t, h => by
    have hb : (stoodOK P 5 g && xokB P l) = true := hb
    rw [Bool.and_eq_true] at hb
    have h : (match Nat.beq t g with | true => true | false => plainT t l) = true := h
    cases hq : Nat.beq t g with
    | true => rw [Nat.eq_of_beq_eq_true hq]; exact hb.1
    | false => rw [hq] at h; exact xok_of hb.2 t h
  | (g, .ixByte) :: l, hb, t, h => xok_of (X := l) hb t h
def ngB (P : Program) : Bool := P.funcs.toList.all fun fn => fn.name != "runtime.NumGoroutine"
theorem ng_of (h : ngB P = true) : ∀ (f : Nat) (fn : Func), P.funcs[f]? = some fn → fn.body.isSome = true → fn.name ≠ "runtime.NumGoroutine" := fun f fn hf _ => by
  have := List.all_eq_true.1 h fn (by
    have := Array.mem_of_getElem? hf
    simpa using this)
  simpa using this
theorem ix_of {f0 : Nat} {fn : Func} (h : P.funcs[f0]? = some fn) (hb : fn.body.isNone = true) (hn : (fn.name == "runtime.NumGoroutine") = false) (h1 : (Extern.findNext fn).isNone = true) (h2 : Extern.find fn = some Extern.BytealgIndexByte.indexByte) (a b : Value) (w : World) :
    (callFunc f0 #[a, b]).run P w = (do let v ← Extern.BytealgIndexByte.indexByte #[a, b]; pure (.value v) : Sem Next).run P w := by
  cases hx : Extern.findNext fn with
  | some e => rw [hx] at h1; cases h1
  | none =>
    unfold callFunc
    simp only [Sem.run_bind, run_program, Result.andThen_ok, h]
    have hb' : fn.body = none := by simpa using hb
    have run_mark : ∀ (m : Mark) (w : World), (Sem.mark m (.pure ())).run P w = .ok () w := fun m w => by simp [Sem.run]
    simp [hn, hb', hx, h2, mark, Sem.run_bind, run_mark]
def ixB (f0 : Nat) : Exts → Bool
  | [] => true
  | (_, .st) :: l => ixB f0 l
  | (g, .ixByte) :: l => Nat.beq g f0 && ixB f0 l
theorem ix_only {f0 : Nat} : ∀ {X : Exts}, ixB f0 X = true → ∀ f, extOf f X = some .ixByte → f = f0
  | [], _, f, h => by cases h
  | (g, .st) :: l, hb, f, h => ix_only (X := l) hb f h
  | (g, .ixByte) :: l, hb, f, h => by
    have hb : (Nat.beq g f0 && ixB f0 l) = true := hb
    rw [Bool.and_eq_true] at hb
    have h : (match Nat.beq f g with | true => some Ext.ixByte | false => extOf f l) = some .ixByte := h
    cases hq : Nat.beq f g with
    | true => rw [Nat.eq_of_beq_eq_true hq, Nat.eq_of_beq_eq_true hb.1]
    | false => rw [hq] at h; exact ix_only hb.2 f h
theorem XS.of {f0 : Nat} (hx : xokB P X = true) (hg : ngB P = true) (hi : ixB f0 X = true) (hq : (P.funcs[f0]?).all (fun fn => fn.body.isNone && !(fn.name == "runtime.NumGoroutine") && (Extern.findNext fn).isNone) = true) (h2 : (P.funcs[f0]?).bind Extern.find = some Extern.BytealgIndexByte.indexByte) : XS P X :=
  ⟨xok_of hx, ng_of hg, fun f hf a b w => by
    rw [ix_only hi f hf]
    cases h : P.funcs[f0]? with
    | none => rw [h] at h2; cases h2
    | some fn =>
      rw [h] at hq h2
      have hq : (fn.body.isNone && !(fn.name == "runtime.NumGoroutine") && (Extern.findNext fn).isNone) = true := hq
      simp only [Bool.and_eq_true, Bool.not_eq_true'] at hq
      exact ix_of h hq.1.1 hq.1.2 hq.2 h2 a b w⟩
noncomputable def donT (s : Sx) : Bool := Sx.rec (motive := fun _ => Bool) (fun _ _ _ => false) (fun _ _ _ _ => false) (fun _ _ _ => false) (fun v _ => beqA v (.b true)) (fun _ => false) s
theorem From.last {j : Nat} (hX : XS P X) (hm : P.follows .mixedOrders = true) {f : Nat} {args : Array Value} {w : World} {s : Sx} {ks : List Nat} (hs : From P X j f args w s) (e : donT (itL (step P X) ks s) = true) : Calls P f args w (fun e w' => e = .returned (.bool true) ∧ RowKit.Below w.heap.size w w') := by
  have h : From P X j f args w (itL (step P X) ks s) := fun cs => by
    obtain ⟨m, s1, r1⟩ := hs cs
    obtain ⟨m', s2, r2⟩ := itL_ok hX hm ks r1
    exact ⟨m', s1.trans s2, r2⟩
  generalize itL (step P X) ks s = y at e h
  cases y with
  | don v hp =>
    have e : beqA v (.b true) = true := e
    rw [beqA_eq _ _ e] at h
    exact h.row
  | _ => cases e
end
end Go.Ev
end
