/- States told otherwise: one lane picked, one lane left; the rest by 60; no conditions. -/
import Derived.Test.YtkhdliicgfmghaaGreatDoorEd
namespace Go.Ev
open Go
section
variable {P : Program} {X : Exts} {ρ : Rho} {j B0 : Nat} {H : Array Obj} {h : Hp} {w0 : World} {cs0 : List Frame} {f : AV → AV}
noncomputable def n8M {α : Type} (f : α → α) (e : N8 α) : N8 α := N8.rec (motive := fun _ => N8 α) (fun a b c d e g h i => .mk (f a) (f b) (f c) (f d) (f e) (f g) (f h) (f i)) e
noncomputable def envM (f : AV → AV) (e : Env) : Env := n8M (n8M f) e
noncomputable def btM (f : AV → AV) (t : Bt) : Bt := Bt.rec (motive := fun _ => Bt) .e (fun v _ _ l r => .n (mapA f v) l r) t
noncomputable def meM (f : AV → AV) (x : Me) : Me := Me.cs x fun i n tr => .mk i n (btM f tr)
noncomputable def msM (f : AV → AV) (l : List Me) : List Me := lR l [] fun x _ ih => meM f x :: ih
noncomputable def obM (f : AV → AV) (o : Ob) : Ob := Ob.rec (motive := fun _ => Ob) .no (fun t k w ms => .c t k w (msM f ms)) .mp .lp o
noncomputable def trM (f : AV → AV) (t : Tr Ob) : Tr Ob := Tr.rec (motive := fun _ => Tr Ob) .e (fun v _ _ l r => .n (obM f v) l r) t
noncomputable def hpM (f : AV → AV) (h : Hp) : Hp := Hp.cs h fun t n d => .mk (trM f t) n d
noncomputable def mapS (f : AV → AV) (s : Sx) : Sx := Sx.rec (motive := fun _ => Sx) (fun e c h => .at_ (envM f e) c (hpM f h)) (fun _ _ _ _ => .bad 163) (fun _ _ _ => .bad 163) (fun _ _ => .bad 163) .bad s
theorem gx_map {α : Type} (f : α → α) (e : N8 α) : ∀ k, (gx α k).get (n8M f e) = f ((gx α k).get e)
  | 0 => by cases e; rfl
  | 1 => by cases e; rfl
  | 2 => by cases e; rfl
  | 3 => by cases e; rfl
  | 4 => by cases e; rfl
  | 5 => by cases e; rfl
  | 6 => by cases e; rfl
  | _ + 7 => by cases e; rfl
theorem sget_envM (k : Nat) (e : Env) : sget k (envM f e) = f (sget k e) := by
  show (gx AV (k % 8)).get ((gx (N8 AV) (k / 8)).get (n8M (n8M f) e)) = _
  rw [gx_map, gx_map]; rfl
theorem btM_get (f : AV → AV) : ∀ (t : Bt) (k : Nat), (btM f t).get k = mapA f (t.get k)
  | .e, _ => rfl
  | .n _ _ _, 0 => rfl
  | .n v l r, k + 1 => by
    have E : btM f (.n v l r) = .n (mapA f v) (btM f l) (btM f r) := rfl
    rw [E, Bt.get_s, Bt.get_s, btM_get f l, btM_get f r]
    split <;> rfl
theorem btM_ok (f : AV → AV) : ∀ (t : Bt) (n : Nat), t.ok n → (btM f t).ok n
  | .e, _, h => h
  | .n _ l r, _, ⟨m, e, h1, h2⟩ => ⟨m, e, btM_ok f l _ h1, btM_ok f r _ h2⟩
theorem nthA_map (ft : f top = top) (q : Nat) (l : List AV) : nthA q (mapA f l) = f (nthA q l) := by
  rw [nthA_eq, nthA_eq, mapA_eq, List.getElem?_map]
  cases l[q]? with
  | none => exact ft.symm
  | some a => rfl
theorem cell_map (ft : f top = top) (k : Nat) (tr : Bt) (i : Nat) : cell k (btM f tr) i = f (cell k tr i) := by
  show nthA (i % k) ((btM f tr).get (i / k)) = f (nthA (i % k) (tr.get (i / k)))
  rw [btM_get, nthA_map ft]
theorem msM_eq (f : AV → AV) : ∀ l : List Me, msM f l = l.map (meM f)
  | [] => rfl
  | x :: l => by
    show meM f x :: msM f l = _
    rw [msM_eq f l]; rfl
theorem CR.map {o : Ps} {k : Nat} {w : Bool} {ms : List Me} (hf : ∀ v x, VR ρ j v x → VR ρ j (f v) x) (ft : f top = top) (c : CR ρ j B0 H o k w ms) : CR ρ j B0 H o k w (msM f ms) := by
  rw [msM_eq]
  refine ⟨c.pos, c.kk, c.low, fun me hm => ?_, fun me hm B Y hl => ?_, ?_⟩
  · obtain ⟨⟨i, n, tr⟩, hm2, rfl⟩ := List.mem_map.1 hm
    have t := c.tr _ hm2
    exact ⟨btM_ok f tr n t.ok, fun e he => by
      show ((btM f tr).get e).length = k
      rw [btM_get, mapA_eq, List.length_map]; exact t.len e he⟩
  · obtain ⟨⟨i, n, tr⟩, hm2, rfl⟩ := List.mem_map.1 hm
    obtain ⟨cs, hb, hx, hc⟩ := c.mem _ hm2 B Y hl
    exact ⟨cs, hb, hx, fun q hq => by
      obtain ⟨v, hv, hvr⟩ := hc q hq
      refine ⟨v, hv, ?_⟩
      show VR ρ j (cell k (btM f tr) q) v
      rw [cell_map ft]; exact hf _ _ hvr⟩
  · refine List.pairwise_map.2 (c.ord.imp ?_)
    intro a b hab
    cases a; cases b; exact hab
theorem trM_get (f : AV → AV) : ∀ (o : Ps) (t : Tr Ob), Tr.get .no o (trM f t) = obM f (Tr.get .no o t)
  | .h, .e => rfl
  | .h, .n _ _ _ => rfl
  | .o _, .e => rfl
  | .o p, .n _ l _ => trM_get f p l
  | .i _, .e => rfl
  | .i p, .n _ _ r => trM_get f p r
theorem HR.mapf (hf : ∀ v x, VR ρ j v x → VR ρ j (f v) x) (ft : f top = top) (hr : HR P ρ j B0 h H) : HR P ρ j B0 (hpM f h) H := by
  obtain ⟨t, n, d⟩ := h
  have g : ∀ o, (hpM f (.mk t n d)).ob o = obM f ((Hp.mk t n d).ob o) := fun o => trM_get f o t
  refine ⟨hr.nxl, hr.fresh, hr.dis, fun o => ?_, hr.md, hr.base, fun o ho => ?_, fun o ty k w ms e me hm => ?_⟩
  · rw [g]
    have := hr.obs o
    cases hq : (Hp.mk t n d).ob o with
    | c ty k w ms => rw [hq] at this; exact CR.map hf ft this
    | _ => rw [hq] at this; exact this
  · rw [g, hr.dom o ho]; rfl
  · rw [g] at e
    cases hq : (Hp.mk t n d).ob o with
    | c ty' k' w' ms' =>
      rw [hq] at e
      have e : Ob.c ty' k' w' (msM f ms') = .c ty k w ms := e
      injection e with _ _ _ e
      rw [← e, msM_eq] at hm
      obtain ⟨⟨i, q, tr⟩, hm2, rfl⟩ := List.mem_map.1 hm
      exact hr.ids o _ _ _ _ hq (.mk i q tr) hm2
    | _ => rw [hq] at e; cases e
theorem SxR.map (hf : ∀ (ρ : Rho) v x, VR ρ j v x → VR ρ j (f v) x) (ft : f top = top) {s : Sx} {m : Machine} (hs : SxR P X j w0 cs0 s m) : SxR P X j w0 cs0 (mapS f s) m := by
  cases hs with
  | @at_ e h fn Ms kd dfs rnd todo ue up u b a cs w ρ mk mks K c ht hk =>
    exact .at_ { c with hr := c.hr.mapf (hf ρ) ft } (fun t k hk => by rw [sget_envM]; exact hf ρ _ _ (ht t k hk)) hk
  | _ => exact .bad
theorem From.map {fn : Nat} {args : Array Value} {w : World} {s : Sx} (hf : ∀ (ρ : Rho) v x, VR ρ j v x → VR ρ j (f v) x) (ft : f top = top) (hs : From P X j fn args w s) : From P X j fn args w (mapS f s) := fun cs => by
  obtain ⟨m, s1, r1⟩ := hs cs
  exact ⟨m, s1, r1.map hf ft⟩
theorem From.pick {fn : Nat} {args : Array Value} {w : World} {s : Sx} (hs : From P X j fn args w s) : From P X j fn args w (mapS (selA j) s) :=
  hs.map (fun _ _ _ h => selA_ok h) rfl
/-- the k-th lane is told as the q-th: nothing is known of it any more -/
noncomputable def cutA (k q : Nat) (v : AV) : AV := bc (isL v) (normL (setA k (nthA q (lsOf v)) (lsOf v))) v
theorem setA_ne (v : AV) : ∀ (k j : Nat) (l : List AV), j ≠ k → (setA k v l)[j]? = l[j]?
  | 0, 0, _, h => absurd rfl h
  | 0, _ + 1, [], _ => rfl
  | 0, _ + 1, _ :: _, _ => rfl
  | _ + 1, _, [], _ => rfl
  | _ + 1, 0, _ :: _, _ => rfl
  | k + 1, j + 1, _ :: l, h => setA_ne v k j l (by omega)
theorem cutA_ok {k q : Nat} {v : AV} {x : Value} (hk : j ≠ k) (h : VR ρ j v x) : VR ρ j (cutA k q v) x := by
  have E : cutA k q v = bc (isL v) (normL (setA k (nthA q (lsOf v)) (lsOf v))) v := rfl
  rw [E]
  cases hL : isL v with
  | false => exact h
  | true =>
    rw [bc_t]
    obtain ⟨b, hb, hv⟩ := isL_lane hL h
    by_cases hn : normL (setA k (nthA q (lsOf v)) (lsOf v)) = top
    · rw [hn]; exact .top _
    · exact (normL_ok hn (by rw [setA_ne _ _ _ _ hk]; exact hb)).2 x hv
theorem From.cut {fn : Nat} {args : Array Value} {w : World} {s : Sx} {k q : Nat} (hk : j ≠ k) (hs : From P X j fn args w s) : From P X j fn args w (mapS (cutA k q) s) :=
  hs.map (fun _ _ _ h => cutA_ok hk h) rfl
theorem From.go {fn : Nat} {args : Array Value} {w : World} {s : Sx} (hX : XS P X) (hm : P.follows .mixedOrders = true) (hs : From P X j fn args w s) (ks : List Nat) : From P X j fn args w (itL (step P X) ks s) := fun cs => by
  obtain ⟨m, s1, r1⟩ := hs cs
  obtain ⟨m', s2, r2⟩ := itL_ok hX hm ks r1
  exact ⟨m', s1.trans s2, r2⟩
end
/-- the rest of a whole number by 60 -/
theorem rem60 (u : Nat) (_ : u < 18446744073709551616) : ∃ c, c < 60 ∧ (int2 3 (fRem 3) (.i 3 u) (.i 3 60) = .i 3 c ∨ (0 < c ∧ int2 3 (fRem 3) (.i 3 u) (.i 3 60) = .i 3 (18446744073709551616 - c))) := by
  have U : int2 3 (fRem 3) (.i 3 u) (.i 3 60) = bc (nn 3 u) (.i 3 (u % 60)) (.i 3 ((18446744073709551616 - (18446744073709551616 - u) % 60) % 18446744073709551616)) := rfl
  rw [U]
  cases nn 3 u with
  | true => exact ⟨u % 60, Nat.mod_lt _ (by omega), .inl rfl⟩
  | false =>
    rw [bc_f]
    have h := Nat.mod_lt (18446744073709551616 - u) (show 0 < 60 by omega)
    generalize (18446744073709551616 - u) % 60 = r at h
    refine ⟨r, h, ?_⟩
    rcases Nat.eq_zero_or_pos r with h0 | h0
    · subst h0; exact .inl rfl
    · exact .inr ⟨h0, by rw [Nat.mod_eq_of_lt (by omega)]⟩
end Go.Ev
