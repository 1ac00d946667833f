/- heap's make, Thing, Array. -/
import Derived.Test.YtefiliomfiomfacApp
import Derived.Test.YtefiliomfiomfacPlain
namespace Go.Proofs.Ytefiliomfiomfac
open Go.RowKit Go.Maps

def stOf (T : List Th) (most nb ns : Nat) : HSt := ⟨raw T, most, fun a => (find T a).isSome, sentAt T, nb, ns⟩
/-- The pointer p is a heap that has these things; its memory lies in F. -/
def HT (w : World) (F : Nat → Prop) (p : Value) (T : List Th) (most N : Nat) : Prop :=
  Good T most ∧ (∀ k, F k → k < w.heap.size) ∧ ∃ hb mb ms v nb ns, p = .pointer (some ⟨hb, 0, none⟩) ∧ HeapIn w hb mb ms v (stOf T most nb ns) ∧ F hb ∧ F mb ∧ F ms ∧ (∀ g, v.ownBlock = some g → F g) ∧ nb ≤ N ∧ ns ≤ N
theorem HT.chg {w w' : World} {F G : Nat → Prop} {p : Value} {T : List Th} {most N : Nat} (h : HT w F p T most N) (hc : Chg G w w') (hd : ∀ k, F k → ¬ G k) : HT w' F p T most N := by
  obtain ⟨hg, hF, hb, mb, ms, v, nb, ns, rfl, hi, f1, f2, f3, f4, b1, b2⟩ := h
  exact ⟨hg, fun k hk => Nat.lt_of_lt_of_le (hF k hk) hc.size, hb, mb, ms, v, nb, ns, rfl, hi.chg hc (hd _ f1) (hd _ f2) (hd _ f3) (fun k hk => hd _ (f4 k hk)), f1, f2, f3, f4, b1, b2⟩
/-- What a call that makes a thing leaves. -/
def HPost (w : World) (F : Nat → Prop) (p : Value) (most N : Nat) (r : Int × Int × List Th) (e : Ending) (w' : World) : Prop :=
  e = .returned (.tuple #[.int .i64 r.1, .int .i64 r.2.1]) ∧ ∃ F', HT w' F' p r.2.2 most (N + 1) ∧ Chg F w w' ∧ ∀ k, F' k → F k ∨ w.heap.size ≤ k

theorem Chg.drewN {F : Nat → Prop} {a b : World} (h : Chg F a b) (n : Nat) : Chg F a (b.drewN n) := ⟨h.os, h.tape, h.output, h.size, h.block⟩

theorem make_nil (id size mst : Int) (f : Value) (w : World) : Calls Try.prog 32 #[.pointer none, .int .i64 id, .int .i64 size, .int .i64 mst, f] w fun e w' => e = .returned (.tuple #[.int .i64 0, .int .i64 1]) ∧ w' = w := by
  go_enter Try.func32, Try.ntmps32
  go_wp2
  go_ret2
  exact ⟨rfl, rfl⟩
theorem make_bad (a : Addr) (id size mst : Int) (f : Value) (w : World) (h : id < 0 ∨ 65535 < id ∨ size < 0 ∨ mst < size) : Calls Try.prog 32 #[.pointer (some a), .int .i64 id, .int .i64 size, .int .i64 mst, f] w fun e w' => e = .returned (.tuple #[.int .i64 0, .int .i64 2]) ∧ w' = w := by
  have hd : (decide (id < 0) || decide (65535 < id) || decide (size < 0) || decide (mst < size)) = true := by
    simp only [Bool.or_eq_true, decide_eq_true_eq]
    omega
  go_enter Try.func32, Try.ntmps32
  go_wp2
  all_goals (go_ret2; exact ⟨rfl, rfl⟩)
theorem make_full {hb mb ms : Nat} {v : Value} {S : HSt} (id size : Nat) (mst : Int) (f : Value) (w : World) (h : HeapIn w hb mb ms v S) (hi : id ≤ 65535) (hs : (size : Int) ≤ mst) (hsz : size ≤ 1048576) (hl : S.ws.length ≤ 1048576) (hm : S.most ≤ 4096) (hfull : S.most < S.ws.length + (size + 1)) :
    Calls Try.prog 32 #[.pointer (some ⟨hb, 0, none⟩), .int .i64 (id : Int), .int .i64 (size : Int), .int .i64 mst, f] w fun e w' => e = .returned (.tuple #[.int .i64 0, .int .i64 17]) ∧ ∀ F, Chg F w w' := by
  have c0 := h.c0
  have c1 := h.c1
  obtain ⟨a, c, rfl⟩ := h.words.shape
  clear h
  have g1 : ¬ ((id : Int) < 0) := by omega
  have g2 : ¬ (65535 < (id : Int)) := by omega
  have g3 : ¬ ((size : Int) < 0) := by omega
  have g4 : ¬ (mst < (size : Int)) := by omega
  have g5 : (S.most : Int) - (S.ws.length : Int) < (size : Int) + 1 := by omega
  generalize S.ws.length = L at *
  generalize S.most = M at *
  go_enter Try.func32, Try.ntmps32
  go_wp2
  go_quiet (fail)
  go_wp2
  go_ret2
  exact ⟨rfl, fun F => (Chg.refl F w).drewN _⟩
theorem chg_drewN (w : World) (n : Nat) : Chg (fun _ => False) w (w.drewN n) := (Chg.refl _ w).drewN n
/-- The struct's cells, its first one another. -/
theorem cells_store {w : World} {hb : Nat} {v v' x y z : Value} (h : w.heap[hb]? = some (.cells #[v, x, y, z] 63 (0, 0))) : (w.setCell ⟨hb, 0, none⟩ v').heap[hb]? = some (.cells #[v', x, y, z] 63 (0, 0)) := by
  rw [heap_setCell_same w hb 0 _ 63 v' h]
  rfl
theorem cells_c0 {w : World} {hb : Nat} {v x y z : Value} (h : w.heap[hb]? = some (.cells #[v, x, y, z] 63 (0, 0))) : w.cell? ⟨hb, 0, none⟩ = some v := by unfold World.cell?; rw [h]; rfl
theorem cells_f0 {w : World} {hb : Nat} {v x y z : Value} (h : w.heap[hb]? = some (.cells #[v, x, y, z] 63 (0, 0))) (o : Nat) : w.frozen? ⟨hb, o, none⟩ = false := by unfold World.frozen?; rw [h]; simp

theorem OI.shape3 {w : World} {v : Value} {l : List Int} (h : OI w v l) : ∃ a n c, v = .slice a n c := by
  obtain ⟨a, c, e⟩ := h.shape
  exact ⟨a, _, c, e⟩
theorem Chg.one {a b : World} {m : Nat} (h : a.grownBy b (some m)) : Chg (fun k => k = m) a b := Chg.grown h (fun _ e => (Option.some.inj e).symm)
theorem Chg.app {F : Nat → Prop} {w a b : World} {v : Value} (h : Chg F w a) (hg : a.grownBy b v.ownBlock) (hv : ∀ k, v.ownBlock = some k → F k ∨ w.heap.size ≤ k) : Chg F w b :=
  h.trans (Chg.grown (F := fun k => v.ownBlock = some k) hg (fun _ e => e)) hv
theorem Chg.set {F : Nat → Prop} {w a : World} {hb o : Nat} (h : Chg F w a) (u : Value) (hF : F hb) : Chg F w (a.setCell ⟨hb, o, none⟩ u) :=
  h.trans (Chg.setCell (F := fun k => k = hb) a u rfl) (fun _ e => .inl (by rw [e]; exact hF))
theorem Chg.al {F : Nat → Prop} {w a : World} (h : Chg F w a) (o : Obj) : Chg F w (a.alloc o) := h.trans (Chg.alloc (fun _ => False) a o) (fun _ e => e.elim)
theorem OI.set {w : World} {v : Value} {l : List Int} {hb o : Nat} (h : OI w v l) (u : Value) (hne : v.ownBlock ≠ some hb) : OI (w.setCell ⟨hb, o, none⟩ u) v l :=
  h.chg (Chg.setCell (F := fun k => k = hb) w u rfl) (fun k hk e => hne (by rw [hk, e]))
theorem OI.al {w : World} {v : Value} {l : List Int} (h : OI w v l) (o : Obj) : OI (w.alloc o) v l := World.ownsRow.alloc h o
theorem RI.al {w : World} {v : Value} {l : List Int} (h : RI w v l) (o : Obj) : RI (w.alloc o) v l := h.chg (Chg.alloc (fun _ => False) w o) (fun _ _ e => e)

set_option maxRecDepth 100000 in
set_option maxHeartbeats 2000000 in
theorem make_ok {hb mb ms : Nat} {v : Value} {S : HSt} (id size : Nat) (mst : Int) (f : Value) (first : List Int) (w : World) (h : HeapIn w hb mb ms v S) (hi : id ≤ 65535) (hs : (size : Int) ≤ mst) (hsz : size ≤ 1048576) (hl : S.ws.length ≤ 1048576) (hm : S.most ≤ 4096) (hroom : S.ws.length + (size + 1) ≤ S.most)
    (hf : RI w f first) (hfl : first.length ≤ size) (hf1 : f.ownBlock ≠ some hb) (hf2 : f.ownBlock ≠ some mb) (hf3 : f.ownBlock = none ∨ f.ownBlock ≠ v.ownBlock) (hnb : S.nb ≤ 1048576) :
    Calls Try.prog 32 #[.pointer (some ⟨hb, 0, none⟩), .int .i64 (id : Int), .int .i64 (size : Int), .int .i64 mst, f] w fun e w' => e = .returned (.tuple #[.int .i64 ((S.ws.length : Int) + 1), .int .i64 0]) ∧ ∃ v',
      HeapIn w' hb mb ms v' ⟨S.ws ++ (((id : Int) * 65536 + (size : Int)) :: (first ++ List.replicate (size - first.length) 0)), S.most, fun a => if a = (S.ws.length : Int) + 1 then true else S.beg a, S.sent, S.nb + 1, S.ns⟩ ∧
      Chg (fun k => k = hb ∨ k = mb ∨ v.ownBlock = some k) w w' ∧ ∀ k, v'.ownBlock = some k → v.ownBlock = some k ∨ w.heap.size ≤ k := by
  obtain ⟨wsl, mst0, bg, sn, nb, ns⟩ := S
  simp only at hl hm hroom hnb ⊢
  have c0 := h.c0
  have c1 := h.c1
  have c2 := h.c2
  obtain ⟨a, c, rfl⟩ := h.words.shape
  have g1 : ¬ ((id : Int) < 0) := by omega
  have g2 : ¬ (65535 < (id : Int)) := by omega
  have g3 : ¬ ((size : Int) < 0) := by omega
  have g4 : ¬ (mst < (size : Int)) := by omega
  have g5 : ¬ ((mst0 : Int) - (wsl.length : Int) < (size : Int) + 1) := by omega
  have HH := Lib.hid h
  have HF := Lib.hid hf
  have hkey : Hid (keyOf Try.prog 2 (.int .i64 ((wsl.length : Int) + 1)) = some (.int .i64 ((wsl.length : Int) + 1))) := keyOf_int_mk Try.underlying2 (by have := wf_nat (k := wsl.length + 1) (by omega); push_cast at this; exact this)
  obtain ⟨L, hL⟩ : ∃ L, wsl.length = L := ⟨_, rfl⟩
  have HL := Lib.hid hL
  rw [hL] at HH hkey hl hroom g5 c0 hf3
  have HN := Lib.hid hnb
  have hfs := Lib.hid (And.intro hf1 (And.intro hf2 hf3))
  have HFL := Lib.hid hfl
  have HRM := Lib.hid hroom
  clear h hf hL hnb hf1 hf2 hf3 hfl hroom
  go_enter Try.func32, Try.ntmps32
  go_wp2
  go_quiet (fail)
  have g6 : decide ((mst0 : Int) - (L : Int) < (size : Int) + 1) = false := decide_eq_false (by omega)
  simp only [g6]
  clear g1 g2 g3 g4 g5 g6 c0 c1 c2
  have HC0 := Lib.hid (chg_drewN w nq)
  generalize w.drewN nq = W0 at *
  have h0 : HeapIn W0 hb mb ms (.slice a L c) ⟨wsl, mst0, bg, sn, nb, ns⟩ := HH.out.chg HC0.out (fun h => h) (fun h => h) (fun h => h) (fun _ _ h => h)
  have c0 := h0.c0
  have c2 := h0.c2
  obtain ⟨D, hown, hD⟩ := h0.begin_
  have H0 := Lib.hid h0
  have HD := Lib.hid hD
  have HO := Lib.hid hown
  clear h0 hD hown
  go_wp2_with (at_mapUpdate; refine wpList_mapUpdate_own _ rfl _ _ _ 60 rfl 2 4 keyed2 Try.underlying60 _ mb nb D rfl HO.out (by have := HN.out; unfold maxLen; omega) _ _ _ rfl rfl hkey.out _ [] (plainElem_bool Try.underlying4 true) ?_)
  intro w1 hown1 hg1
  clear c0 c2
  have HB1 : Hid (w1.heap[hb]? = some (.cells #[.slice a L c, .int .i64 mst0, .map (some mb), .map (some ms)] 63 (0, 0))) := (hg1.block hb (Array.getElem?_eq_some_iff.1 H0.out.cells).1 (fun e => H0.out.d1 (Option.some.inj e))).trans H0.out.cells
  have HC1 : Hid (Chg (fun k => k = hb ∨ k = mb ∨ (Value.slice a L c).ownBlock = some k) w w1) := (HC0.out.mono (fun _ e => e.elim)).trans (Chg.one hg1) (fun _ e => .inl (.inr (.inl e)))
  have HO1 : Hid (OI w1 (.slice a L c) wsl) := H0.out.words.chg (Chg.one hg1) (fun _ hk e => H0.out.d5 (hk.trans (congrArg some e)))
  have HM1 := Lib.hid hown1
  clear hown1 hg1
  have c1 := cells_c0 HB1.out
  go_wp2_with (at_builtin; refine wpList_appI rfl (.tmp 61) (.tmp 66) rfl (.slice a L c) (.slice (some ⟨w1.heap.size, 0, none⟩) 1 1) wsl [(id : Int) * 65536 + (size : Int)] rfl rfl (HO1.out.al _) (ri_one _ _ _ _) ?hlen ?_)
  case hlen =>
    have := HL.out
    have := HRM.out
    simp only [List.length_singleton]
    omega
  intro v2 w2 ho2 hg2 hl2
  obtain ⟨a2, n2, k2, rfl⟩ := ho2.shape3
  have hd2 : Hid (∀ k, (Value.slice a2 n2 k2).ownBlock = some k → (Value.slice a L c).ownBlock = some k ∨ w.heap.size ≤ k) := fun k hk => by
    rcases hl2 with e | e
    · exact .inl (e.symm.trans hk)
    · have := Option.some.inj (e.symm.trans hk)
      have := HC1.out.size
      exact .inr (by omega)
  have HB2 : Hid (w2.heap[hb]? = some (.cells #[.slice a L c, .int .i64 mst0, .map (some mb), .map (some ms)] 63 (0, 0))) :=
    (hg2.block hb (by have := (Array.getElem?_eq_some_iff.1 HB1.out).1; simp; omega) (fun e => H0.out.d4 e.symm)).trans ((heap_alloc_old w1 _ (Array.getElem?_eq_some_iff.1 HB1.out).1).trans HB1.out)
  have HC2 : Hid (Chg (fun k => k = hb ∨ k = mb ∨ (Value.slice a L c).ownBlock = some k) w w2) := (HC1.out.al _).app hg2 (fun k e => .inl (.inr (.inr e)))
  have HM2 : Hid (w2.ownsMap Try.prog 2 (plainElem Try.prog 4) mb (nb + 1) (D.put (.int .i64 ((L : Int) + 1)) (.lit (.bool true)))) := (HM1.out.alloc _).kept hg2 (fun e => H0.out.d5 e.symm)
  have HO2 := Lib.hid ho2
  clear ho2 hg2 hl2 c1
  have c2 := cells_c0 HB2.out
  have f2 := cells_f0 HB2.out 0
  have hne2 : (Value.slice a2 n2 k2).ownBlock ≠ some hb := fun e => by
    rcases hd2.out hb e with h | h
    · exact H0.out.d4 h
    · have := (Array.getElem?_eq_some_iff.1 HH.out.cells).1
      omega
  have HB3 : Hid ((w2.setCell ⟨hb, 0, none⟩ (.slice a2 n2 k2)).heap[hb]? = some (.cells #[(.slice a2 n2 k2), .int .i64 mst0, .map (some mb), .map (some ms)] 63 (0, 0))) := cells_store HB2.out
  have HC3 := Lib.hid (HC2.out.set (.slice a2 n2 k2) (o := 0) (Or.inl rfl))
  have HO3 := Lib.hid (HO2.out.set (.slice a2 n2 k2) (o := 0) hne2)
  have HM3 := Lib.hid (HM2.out.setCell (a := ⟨hb, 0, none⟩) (fun e => H0.out.d1 e.symm) (.slice a2 n2 k2))
  have HF3 : Hid (RI (w2.setCell ⟨hb, 0, none⟩ (.slice a2 n2 k2)) f first) := HF.out.chg HC3.out (fun k hk e => by
    obtain ⟨q1, q2, q3⟩ := hfs.out
    rcases e with e | e | e
    · exact q1 (by rw [hk, e])
    · exact q2 (by rw [hk, e])
    · rcases q3 with q3 | q3
      · rw [q3] at hk; cases hk
      · exact q3 (hk.trans e.symm))
  have c3 := cells_c0 HB3.out
  clear hne2
  go_wp2_with (at_builtin; refine wpList_appI rfl (.tmp 74) (.tmp 75) rfl (.slice a2 n2 k2) f (wsl ++ [(id : Int) * 65536 + (size : Int)]) first rfl rfl HO3.out HF3.out ?hlen2 ?_)
  case hlen2 =>
    have := HL.out
    have := HRM.out
    have := HFL.out
    simp only [List.length_append, List.length_singleton]
    omega
  intro v3 w3 ho3 hg3 hl3
  obtain ⟨a3, n3, k3, rfl⟩ := ho3.shape3
  have hd3 : Hid (∀ k, (Value.slice a3 n3 k3).ownBlock = some k → (Value.slice a L c).ownBlock = some k ∨ w.heap.size ≤ k) := fun k hk => by
    rcases hl3 with e | e
    · exact hd2.out k (e.symm.trans hk)
    · have := Option.some.inj (e.symm.trans hk)
      have := HC2.out.size
      exact .inr (by omega)
  have hne2 : (Value.slice a2 n2 k2).ownBlock ≠ some hb := fun e => by
    rcases hd2.out hb e with h | h
    · exact H0.out.d4 h
    · have := (Array.getElem?_eq_some_iff.1 HH.out.cells).1
      omega
  have hne3 : (Value.slice a3 n3 k3).ownBlock ≠ some hb := fun e => by
    rcases hd3.out hb e with h | h
    · exact H0.out.d4 h
    · have := (Array.getElem?_eq_some_iff.1 HH.out.cells).1
      omega
  have hnm2 : (Value.slice a2 n2 k2).ownBlock ≠ some mb := fun e => by
    rcases hd2.out mb e with h | h
    · exact H0.out.d5 h
    · have := HH.out.begin_.lt
      omega
  have HB4 : Hid (w3.heap[hb]? = some (.cells #[.slice a2 n2 k2, .int .i64 mst0, .map (some mb), .map (some ms)] 63 (0, 0))) :=
    (hg3.block hb (Array.getElem?_eq_some_iff.1 HB3.out).1 (fun e => hne2 e.symm)).trans HB3.out
  have HC4 : Hid (Chg (fun k => k = hb ∨ k = mb ∨ (Value.slice a L c).ownBlock = some k) w w3) := HC3.out.app hg3 (fun k e => (hd2.out k e).elim (fun h => .inl (.inr (.inr h))) .inr)
  have HM4 : Hid (w3.ownsMap Try.prog 2 (plainElem Try.prog 4) mb (nb + 1) (D.put (.int .i64 ((L : Int) + 1)) (.lit (.bool true)))) := HM3.out.kept hg3 (fun e => hnm2 e.symm)
  have HB5 : Hid ((w3.setCell ⟨hb, 0, none⟩ (.slice a3 n3 k3)).heap[hb]? = some (.cells #[.slice a3 n3 k3, .int .i64 mst0, .map (some mb), .map (some ms)] 63 (0, 0))) := cells_store HB4.out
  have HC5 := Lib.hid (HC4.out.set (.slice a3 n3 k3) (o := 0) (Or.inl rfl))
  have HO5 := Lib.hid (ho3.set (.slice a3 n3 k3) (o := 0) hne3)
  have HM5 := Lib.hid (HM4.out.setCell (a := ⟨hb, 0, none⟩) (fun e => H0.out.d1 e.symm) (.slice a3 n3 k3))
  have HF4 : Hid (RI w3 f first) := HF.out.chg HC4.out (fun k hk e => by
    obtain ⟨q1, q2, q3⟩ := hfs.out
    rcases e with e | e | e
    · exact q1 (by rw [hk, e])
    · exact q2 (by rw [hk, e])
    · rcases q3 with q3 | q3
      · rw [q3] at hk; cases hk
      · exact q3 (hk.trans e.symm))
  obtain ⟨fa, fc, rfl, _⟩ := HF4.out
  clear ho3 hg3 hl3 hne2 hne3 hnm2 c2 f2 c3
  have c4 := cells_c0 HB4.out
  have f4 := cells_f0 HB4.out 0
  have c5 := cells_c0 HB5.out
  have hsub : (size : Int) - (first.length : Int) = ((size - first.length : Nat) : Int) := by have := HFL.out; omega
  go_wp2_with (at_builtin; refine wpList_appZ rfl (.tmp 83) (.tmp 87) rfl (.slice a3 n3 k3) (wsl ++ ((id : Int) * 65536 + (size : Int)) :: first) (size - first.length) rfl rfl HO5.out ?hlen3 ?_)
  case hlen3 =>
    have := HL.out
    have := HRM.out
    have := HFL.out
    simp only [List.length_append, List.length_cons]
    omega
  intro v4 w4 ho4 hg4 hl4
  obtain ⟨a4, n4, k4, rfl⟩ := ho4.shape3
  have hd4 : ∀ k, (Value.slice a4 n4 k4).ownBlock = some k → (Value.slice a L c).ownBlock = some k ∨ w.heap.size ≤ k := fun k hk => by
    rcases hl4 with e | e
    · exact hd3.out k (e.symm.trans hk)
    · have := Option.some.inj (e.symm.trans hk)
      have := HC4.out.size
      exact .inr (by omega)
  have hsz : hb < w.heap.size ∧ mb < w.heap.size ∧ ms < w.heap.size := ⟨(Array.getElem?_eq_some_iff.1 HH.out.cells).1, HH.out.begin_.lt, HH.out.sent.lt⟩
  have hne3 : (Value.slice a3 n3 k3).ownBlock ≠ some hb := fun e => (hd3.out hb e).elim H0.out.d4 (fun h => by omega)
  have hnm3 : (Value.slice a3 n3 k3).ownBlock ≠ some mb := fun e => (hd3.out mb e).elim H0.out.d5 (fun h => by omega)
  have hne4 : (Value.slice a4 n4 k4).ownBlock ≠ some hb := fun e => (hd4 hb e).elim H0.out.d4 (fun h => by omega)
  have hnm4 : (Value.slice a4 n4 k4).ownBlock ≠ some mb := fun e => (hd4 mb e).elim H0.out.d5 (fun h => by omega)
  have hns4 : (Value.slice a4 n4 k4).ownBlock ≠ some ms := fun e => (hd4 ms e).elim H0.out.d6 (fun h => by omega)
  have HB6 : Hid (w4.heap[hb]? = some (.cells #[.slice a3 n3 k3, .int .i64 mst0, .map (some mb), .map (some ms)] 63 (0, 0))) :=
    (hg4.block hb (Array.getElem?_eq_some_iff.1 HB5.out).1 (fun e => hne3 e.symm)).trans HB5.out
  have HC6 : Hid (Chg (fun k => k = hb ∨ k = mb ∨ (Value.slice a L c).ownBlock = some k) w w4) := HC5.out.app hg4 (fun k e => (hd3.out k e).elim (fun h => .inl (.inr (.inr h))) .inr)
  have HM6 : Hid (w4.ownsMap Try.prog 2 (plainElem Try.prog 4) mb (nb + 1) (D.put (.int .i64 ((L : Int) + 1)) (.lit (.bool true)))) := HM5.out.kept hg4 (fun e => hnm3 e.symm)
  have HC7 := Lib.hid (HC6.out.set (.slice a4 n4 k4) (o := 0) (Or.inl rfl))
  have HO7 := Lib.hid (ho4.set (.slice a4 n4 k4) (o := 0) hne4)
  have HM7 := Lib.hid (HM6.out.setCell (a := ⟨hb, 0, none⟩) (fun e => H0.out.d1 e.symm) (.slice a4 n4 k4))
  have HIN : Hid (HeapIn (w4.setCell ⟨hb, 0, none⟩ (.slice a4 n4 k4)) hb mb ms (.slice a4 n4 k4) ⟨wsl ++ (((id : Int) * 65536 + (size : Int)) :: (first ++ List.replicate (size - first.length) 0)), mst0, fun a => if a = (wsl.length : Int) + 1 then true else bg a, sn, nb + 1, ns⟩) := by
    refine ⟨cells_store HB6.out, HO7.out, ⟨_, HM7.out, ?_⟩, ?_, H0.out.d1, H0.out.d2, H0.out.d3, hne4, hnm4, hns4⟩
    · intro x hx
      show _ = DataW.lit (.bool (if x = (wsl.length : Int) + 1 then true else bg x))
      rw [HL.out]
      by_cases e : x = (L : Int) + 1
      · rw [if_pos e, e]
        exact atKey_put_same (k := .int .i64 ((L : Int) + 1)) HO.out.isMap trivial _ _
      · rw [if_neg e, atKey_put_other (fun h => e (by injection h))]
        exact HD.out x hx
    · refine HH.out.sent.chg HC7.out (fun e => ?_)
      rcases e with e | e | e
      · exact H0.out.d2 e.symm
      · exact H0.out.d3 e.symm
      · exact H0.out.d6 e
  have HLOC := Lib.hid hd4
  clear ho4 hg4 hl4 hd4 hsz hne3 hnm3 hne4 hnm4 hns4 c4 f4 c5 hsub
  have c6 := cells_c0 HB6.out
  have f6 := cells_f0 HB6.out 0
  go_wp2
  go_ret2
  have := HL.out
  subst this
  exact ⟨rfl, _, HIN.out, HC7.out, HLOC.out⟩
end Go.Proofs.Ytefiliomfiomfac
