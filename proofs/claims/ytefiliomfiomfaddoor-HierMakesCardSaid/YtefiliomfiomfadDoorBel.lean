/- hier's Names, Below. -/
import Derived.Test.YtefiliomfiomfadDoorDel
import Derived.Deep.RegionHeld3
namespace Go.Proofs.YtefiliomfiomfadDoor
open Go.RowKit Go.Maps

theorem RS.al {w : World} {v : Value} {l : List BA} (h : RS w v l) (o : Obj) : RS (w.alloc o) v l := h.chg (Chg.alloc (fun _ => False) w o) (fun _ _ e => e)
/-- 'append(out, l...)'. -/
theorem wpList_appL {w : World} {ops : Array Oper} {rest : List Oper} {o : Oper} {a : Act} {Q : Exit → Act → World → Prop} (hgd : o.guard = none) (s x : Operand)
    (ho : o.op = .call { callee := .builtin .append, args := #[s, x], argTypes := #[40, 40] })
    (v : Value) (l r : List BA) (b c n : Nat) (hs : a.eval s = v) (hx : a.eval x = .slice (some ⟨b, 0, none⟩) n c) (hn : n = r.length) (hown : OS w v l) (hr : OS w (.slice (some ⟨b, 0, none⟩) n c) r)
    (hlen : l.length + r.length ≤ 1048576)
    (h : ∀ v' w', OS w' v' (l ++ r) → w.grownBy w' v.ownBlock → (v'.ownBlock = v.ownBlock ∨ v'.ownBlock = some w.heap.size) → wpList Tryd.prog ops Q rest (a.put o.dst v') w') : wpList Tryd.prog ops Q (o :: rest) a w := by
  subst hn
  obtain ⟨i0, hi, hz0, hz1, hz2⟩ := info_parts info9
  refine wpList_append_own_at w hgd s x 40 ho 0 9 i0 (.string ⟨#[]⟩) 1 16 Tryd.underlying40 hi hz0 hz1 hz2 rfl (by decide) v l.length (l.map Value.string) hs hown ⟨b, 0, none⟩ r.length c (r.map Value.string) hx (by simp) ?_ ?_ (by unfold maxLen; omega) (by omega) (by omega) ?_
  · intro j u hu
    exact World.ownsRow.cells hr rfl j u hu
  · intro u hu
    obtain ⟨x, _, rfl⟩ := List.mem_map.1 hu
    rfl
  · intro v' w' hown' hg _ hloc
    refine h v' w' ?_ hg hloc
    unfold OS
    simpa using hown'
theorem clone37 (l : List BA) (v : Value) (w : World) (h : OS w v l) (hl : 0 < l.length) (hlen : l.length ≤ 1048576) : Calls Tryd.prog 37 #[v] w (FS w l) := by
  have hsh : ∃ gb c, v = .slice (some ⟨gb, 0, none⟩) l.length c ∧ l.length ≤ c := by
    rcases h.2 with ⟨_, hn⟩ | ⟨gb, c, cur, e, _, _, hnc, _⟩
    · omega
    · exact ⟨gb, c, e, hnc⟩
  obtain ⟨gb, c, rfl, hlc⟩ := hsh
  have HO : Hid (OS (w.alloc (.cells #[] 9)) (.slice (some ⟨w.heap.size, 0, none⟩) 0 0) []) := World.ownsRow_lit w #[] 0 (Nat.zero_le _) (by unfold maxLen; omega) (by rfl)
  have HR := Lib.hid (h.al (.cells #[] 9))
  clear h
  have hq := fun w : World => Lib.run_eql_slice_nil (P := Tryd.prog) w 40 9 (some ⟨gb, 0, none⟩) l.length c 0 0 Tryd.underlying40
  go_enter Tryd.func37, Tryd.ntmps37
  go_wp2_with (at_builtin; refine wpList_appL rfl (.tmp 5) (.tmp 6) rfl (.slice (some ⟨w.heap.size, 0, none⟩) 0 0) [] l gb c l.length rfl rfl rfl HO.out HR.out ?hlen ?_)
  case hlen => simpa using hlen
  intro v' w' ho hg hloc
  have HO' := Lib.hid ho
  have hc : Chg (fun _ => False) w w' := (Chg.alloc (fun _ => False) w _).trans (Chg.one hg) (fun k e => .inr (by rw [e]; exact Nat.le_refl _))
  have HC : Hid (Below w.heap.size w w') := Lib.hid (hc.below (Nat.le_refl _) (fun _ e => e.elim))
  have HL : Hid (∀ k, v'.ownBlock = some k → w.heap.size ≤ k) := fun k hk => by
    rcases hloc with e | e
    · have := Option.some.inj (e.symm.trans hk); exact Nat.le_of_eq this
    · have := Option.some.inj (e.symm.trans hk)
      have hs : (w.alloc (.cells #[] 9)).heap.size = w.heap.size + 1 := by simp
      omega
  clear ho hg hloc hc
  go_wp2
  go_ret
  exact ⟨v', rfl, by simpa using HO'.out, HL.out, HC.out⟩
theorem names17 {w : World} {F : Nat → Prop} {p : Value} {H : List (BA × BA)} {N : Nat} (h : HP w F p H N) (h0 : 0 < H.length) (hl : H.length ≤ 1048576) : Calls Tryd.prog 17 #[p] w (FS w (H.map (·.1))) := by
  obtain ⟨_, hb, mb, v, n, rfl, hi, _⟩ := h
  have c0 := hi.c0
  have HC := Lib.hid (clone37 (H.map (·.1)) v w hi.names (by simpa using h0) (by simpa using hl))
  obtain ⟨a, n, c, rfl⟩ := hi.names.shape3
  clear hi h0 hl
  go_enter Tryd.func17, Tryd.ntmps17
  go_wp2_with fail
  refine HC.out.mono ?_
  rintro e w1 ⟨v', rfl, h1⟩
  have H1 := Lib.hid h1
  clear h1
  go_wp2
  go_ret
  exact ⟨v', rfl, H1.out⟩
set_option maxHeartbeats 1000000 in
theorem not39 {w : World} {F : Nat → Prop} {p : Value} {H : List (BA × BA)} {N b1 b2 : Nat} (h : HP w F p H N) (hH : sizes H) (hT : Tot H) (s c : BA) (hs : s.size ≤ maxLen)
    (h1 : w.cell? ⟨b1, 0, none⟩ = some p) (h2 : w.cell? ⟨b2, 0, none⟩ = some (.string c)) :
    Calls Tryd.prog 39 #[.string s, .pointer (some ⟨b1, 0, none⟩), .pointer (some ⟨b2, 0, none⟩)] w fun e w' => e = .returned (.bool (!(inF (chainF H s) c))) ∧ Below w.heap.size w w' := by
  have HC := Lib.hid (fun (w' : World) (hb : Below w.heap.size w w') => chain21 (h.below hb) hH s hs 100 (by omega) _ (hT s).1)
  have HB0 := Lib.hid (Below.refl w.heap.size w)
  have HCO := Lib.hid (fun (w' : World) (v : Value) (ho : OS w' v (chainF H s)) => contains31 (chainF H s) v c w' ho.rs (by have := (hT s).2; omega))
  obtain ⟨hb, rfl⟩ := h.p
  generalize inF (chainF H s) c = r at *
  clear h hH hT hs
  go_enter Tryd.func39, Tryd.ntmps39
  go_wp2
  have HL1 : Hid (b1 < w.heap.size) := Lib.hid (World.block_lt_of_cell? w _ h1)
  have HL2 : Hid (b2 < w.heap.size) := Lib.hid (World.block_lt_of_cell? w _ h2)
  go_region_held3 (fun w' => w'.cell? ⟨b1, 0, none⟩ = some (.pointer (some ⟨hb, 0, none⟩)) ∧ w'.cell? ⟨b2, 0, none⟩ = some (.string c) ∧ Below w.heap.size w w')
    (first | exact ⟨h1, h2, HB0.out.drew⟩ | exact ⟨by assumption, by assumption, by assumption⟩)
    (first
      | (go_at_call 21; refine (HC.out _ HB0.out.drew).mono ?_; rintro e w2 ⟨v, rfl, ho, _, hb2⟩; have k0 := (HB0.out.drew.trans hb2); have HO2 := Lib.hid ho; clear ho hb2; have k1 := (k0.cell (p := ⟨b1, 0, none⟩) HL1.out).trans h1; have k2 := (k0.cell (p := ⟨b2, 0, none⟩) HL2.out).trans h2)
      | (go_at_call 31; refine (HCO.out _ _ HO2.out).mono ?_; rintro e w3 ⟨rfl, rfl⟩))
  clear h1 h2 HL1 HL2 k1 k2
  go_wp2
  go_ret
  exact ⟨rfl, k0⟩
theorem below_names (H : List (BA × BA)) (c : BA) : (H.map (·.1)).filter (fun s => !(!(inF (chainF H s) c))) = belowF H c := by
  unfold belowF
  congr 1
  funext s
  rw [Bool.not_not]
set_option maxHeartbeats 1000000 in
theorem below23 {w : World} {F : Nat → Prop} {p : Value} {H : List (BA × BA)} {N : Nat} (h : HP w F p H N) (hH : sizes H) (hT : Tot H) (h0 : 0 < H.length) (hl : H.length ≤ 1048576) (c : BA) :
    Calls Tryd.prog 23 #[p, .string c] w (FS w (belowF H c)) := by
  have hb2 : Below w.heap.size w ((w.alloc (.cells #[p] 24)).alloc (.cells #[.string c] 9)) := ((Below.refl _ w).alloc (Nat.le_refl _) _).alloc (by simp) _
  have hs2 : ((w.alloc (.cells #[p] 24)).alloc (.cells #[.string c] 9)).heap.size = w.heap.size + 2 := by simp
  have hp2 := h.below hb2
  have e1 : ((w.alloc (.cells #[p] 24)).alloc (.cells #[.string c] 9)).cell? ⟨w.heap.size, 0, none⟩ = some p := by
    rw [World.cell?_alloc_past _ _ _ (by simp), World.cell?_alloc_mark]; rfl
  have e2 : ((w.alloc (.cells #[p] 24)).alloc (.cells #[.string c] 9)).cell? ⟨w.heap.size + 1, 0, none⟩ = some (.string c) := by
    rw [World.cell?_alloc_at _ _ _ _ (by simp)]; rfl
  have HN := Lib.hid (names17 hp2 h0 hl)
  have HD : Hid (∀ (w3 : World) (v : Value), OS w3 v (H.map (·.1)) → (∀ g, v.ownBlock = some g → w.heap.size + 2 ≤ g) → Below (w.heap.size + 2) ((w.alloc (.cells #[p] 24)).alloc (.cells #[.string c] 9)) w3 →
      Calls Tryd.prog 38 #[v, .func (Fn.func 39) #[] #[.pointer (some ⟨w.heap.size, 0, none⟩), .pointer (some ⟨w.heap.size + 1, 0, none⟩)]] w3 (DPost w3 v (belowF H c))) := Lib.hid fun w3 v ho hg hb3 => by
    rw [← below_names]
    refine delete38 (fun s => !(inF (chainF H s) c)) _ _ _ v w3 ho (by simpa using hl) (fun s hs w' hc => ?_)
    have hb4 : Below (w.heap.size + 2) ((w.alloc (.cells #[p] 24)).alloc (.cells #[.string c] 9)) w' := hb3.trans (hc.below (by have := hb3.size; omega) hg)
    obtain ⟨q, hq, rfl⟩ := List.mem_map.1 hs
    exact not39 (hp2.below (by rw [hs2]; exact hb4)) hH hT q.1 c (hH q hq).1 ((hb4.cell (p := ⟨w.heap.size, 0, none⟩) (by simp)).trans e1) ((hb4.cell (p := ⟨w.heap.size + 1, 0, none⟩) (by simp)).trans e2)
  obtain ⟨hb, rfl⟩ := h.p
  clear h hH hT h0 hl hp2 hs2 e1 e2 hb2
  go_enter Tryd.func23, Tryd.ntmps23
  go_wp2_with fail
  refine HN.out.mono ?_
  rintro e w3 ⟨v, rfl, ho3, hg3, hb3⟩
  have HS : ((w.alloc (.cells #[.pointer (some ⟨hb, 0, none⟩)] 24)).alloc (.cells #[.string c] 9)).heap.size = w.heap.size + 2 := by simp
  rw [HS] at hg3 hb3
  have HD3 := Lib.hid (HD.out w3 v ho3 hg3 hb3)
  have HG3 := Lib.hid hg3
  have HB3 : Hid (Below w.heap.size w w3) := Lib.hid ((((Below.refl _ w).alloc (Nat.le_refl _) _).alloc (by simp) _).trans (hb3.mono (by omega)))
  have HZ3 : Hid (w.heap.size + 2 ≤ w3.heap.size) := Lib.hid (by have := hb3.size; omega)
  clear ho3 hg3 hb3 HD HN HS
  go_wp2_with fail
  refine HD3.out.mono ?_
  rintro e w4 ⟨v4, rfl, ho4, hv4, hc4⟩
  have HF : Hid (FS w (belowF H c) (.returned v4) w4) := Lib.hid ⟨v4, rfl, ho4, fun g hg => by have := HG3.out g (hv4 ▸ hg); omega, HB3.out.trans (hc4.below (by have := HZ3.out; omega) (fun k hk => by have := HG3.out k hk; omega))⟩
  clear ho4 hv4 hc4
  go_wp2
  go_ret
  exact HF.out
end Go.Proofs.YtefiliomfiomfadDoor
