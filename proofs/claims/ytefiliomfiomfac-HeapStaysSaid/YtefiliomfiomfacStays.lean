/- HeapStays' walk. -/
import Derived.Test.YtefiliomfiomfacStayP
import Derived.Test.YtefiliomfiomfacArgs
namespace Go.Proofs.Ytefiliomfiomfac
open Go.RowKit Go.Maps

/-- What holds between the rounds: the heap, the list of addresses, what stays. -/
def Inv (w0 : World) (p : Value) (v : Int) (M : Nat) (wr : World) (lv : Value) : Prop := ∃ (T : List Th) (N : Nat) (F : Nat → Prop) (L : List Int), N ≤ M ∧ L.length ≤ M ∧ HT wr F p T 4096 N ∧ (∀ k, F k → w0.heap.size ≤ k) ∧ OI wr lv L ∧
  (∀ g, lv.ownBlock = some g → w0.heap.size ≤ g ∧ ¬ F g) ∧ (∀ a ∈ L, Stay T v a ∧ (Lit.int .i64 a).wf = true) ∧ Below w0.heap.size w0 wr
/-- A call that makes a thing keeps it. -/
theorem Inv.made {w0 wr w2 : World} {p lv : Value} {v : Int} {M N : Nat} {F : Nat → Prop} {L : List Int} {r : Int × Int × List Th} {e : Ending}
    (hN : N ≤ M) (hL : L.length ≤ M) (hF : ∀ k, F k → w0.heap.size ≤ k) (ho : OI wr lv L) (hl : ∀ g, lv.ownBlock = some g → w0.heap.size ≤ g ∧ ¬ F g) (hs : ∀ a ∈ L, Stay r.2.2 v a ∧ (Lit.int .i64 a).wf = true) (hb : Below w0.heap.size w0 wr)
    (h : HPost wr F p 4096 N r e w2) : ∃ F', HT w2 F' p r.2.2 4096 (N + 1) ∧ (∀ k, F' k → w0.heap.size ≤ k) ∧ OI w2 lv L ∧ (∀ g, lv.ownBlock = some g → w0.heap.size ≤ g ∧ ¬ F' g) ∧ Below w0.heap.size w0 w2 ∧ Inv w0 p v (M + 1) w2 lv := by
  obtain ⟨_, F', hT, hc, hF'⟩ := h
  have o2 : OI w2 lv L := ho.chg hc (fun g hg => (hl g hg).2)
  have f2 : ∀ k, F' k → w0.heap.size ≤ k := fun k hk => (hF' k hk).elim (hF k) (fun h => Nat.le_trans hb.size h)
  have l2 : ∀ g, lv.ownBlock = some g → w0.heap.size ≤ g ∧ ¬ F' g := fun g hg => ⟨(hl g hg).1, fun hf => (hF' g hf).elim (hl g hg).2 (fun h => by have := ho.lt g hg; omega)⟩
  have b2 : Below w0.heap.size w0 w2 := hb.trans (hc.below hb.size hF)
  exact ⟨F', hT, f2, o2, l2, b2, r.2.2, N + 1, F', L, by omega, by omega, hT, f2, o2, l2, hs, b2⟩
/-- .. and the reference's empty heap stands in block R. -/
def Inv2 (w0 : World) (p : Value) (v : Int) (M R : Nat) (L : List Int) (lv : Value) (wr : World) : Prop := ∃ (T : List Th) (N : Nat) (F : Nat → Prop), N ≤ M ∧ HT wr F p T 4096 N ∧ (∀ k, F k → w0.heap.size ≤ k) ∧ OI wr lv L ∧
  (∀ g, lv.ownBlock = some g → w0.heap.size ≤ g ∧ ¬ F g) ∧ (∀ a ∈ L, Stay T v a ∧ (Lit.int .i64 a).wf = true) ∧ Below w0.heap.size w0 wr ∧ ¬ F R ∧ wr.heap[R]? = some (.cells #[.int .i64 4096, .slice none 0 0] 43 (0, 0))
theorem Inv.box {w0 wr : World} {p lv : Value} {v : Int} {M : Nat} (h : Inv w0 p v M wr lv) : ∃ L : List Int, L.length ≤ M ∧ Inv2 w0 p v M wr.heap.size L lv (wr.alloc (.cells #[.int .i64 4096, .slice none 0 0] 43)) := by
  obtain ⟨T, N, F, L, hN, hL, hT, hF, ho, hl, hs, hb⟩ := h
  exact ⟨L, hL, T, N, F, hN, hT.chg (Chg.alloc (fun _ => False) wr _) (fun _ _ e => e), hF, ho.al _, hl, hs, hb.alloc hb.size _, (fun hf => by have := hT.2.1 _ hf; omega), heap_alloc_new wr _⟩
theorem Inv2.made {w0 wr w2 : World} {p lv : Value} {v : Int} {M N R : Nat} {F : Nat → Prop} {L : List Int} {r : Int × Int × List Th} {e : Ending}
    (hN : N ≤ M) (hF : ∀ k, F k → w0.heap.size ≤ k) (ho : OI wr lv L) (hl : ∀ g, lv.ownBlock = some g → w0.heap.size ≤ g ∧ ¬ F g) (hs : ∀ a ∈ L, Stay r.2.2 v a ∧ (Lit.int .i64 a).wf = true) (hb : Below w0.heap.size w0 wr)
    (hR : ¬ F R) (hRb : wr.heap[R]? = some (.cells #[.int .i64 4096, .slice none 0 0] 43 (0, 0)))
    (h : HPost wr F p 4096 N r e w2) : Inv2 w0 p v (M + 1) R L lv w2 := by
  obtain ⟨_, F', hT', hc, hF'⟩ := h
  have hlt := (Array.getElem?_eq_some_iff.1 hRb).1
  refine ⟨r.2.2, N + 1, F', by omega, hT', fun k hk => (hF' k hk).elim (hF k) (fun h => Nat.le_trans hb.size h), ho.chg hc (fun g hg => (hl g hg).2), fun g hg => ⟨(hl g hg).1, fun hf => (hF' g hf).elim (hl g hg).2 (fun h => by have := ho.lt g hg; omega)⟩, hs, hb.trans (hc.below hb.size hF), fun hf => (hF' R hf).elim hR (fun h => by omega), (hc.block R hlt hR).trans hRb⟩
theorem Inv2.set {w0 wr w2 : World} {p lv : Value} {v : Int} {M N R : Nat} {F : Nat → Prop} {L : List Int} {r : Int × List Th} {e : Ending}
    (hN : N ≤ M) (hF : ∀ k, F k → w0.heap.size ≤ k) (ho : OI wr lv L) (hl : ∀ g, lv.ownBlock = some g → w0.heap.size ≤ g ∧ ¬ F g) (hs : ∀ a ∈ L, Stay r.2 v a ∧ (Lit.int .i64 a).wf = true) (hb : Below w0.heap.size w0 wr)
    (hR : ¬ F R) (hRb : wr.heap[R]? = some (.cells #[.int .i64 4096, .slice none 0 0] 43 (0, 0)))
    (h : SPost wr F p 4096 N r e w2) : Inv2 w0 p v (M + 1) R L lv w2 := by
  obtain ⟨_, hT', hc⟩ := h
  have hlt := (Array.getElem?_eq_some_iff.1 hRb).1
  exact ⟨r.2, N, F, by omega, hT', hF, ho.chg hc (fun g hg => (hl g hg).2), hl, hs, hb.trans (hc.below hb.size hF), hR, (hc.block R hlt hR).trans hRb⟩
theorem Inv2.more {w0 wr : World} {p lv : Value} {v : Int} {M R : Nat} {L : List Int} (h : Inv2 w0 p v M R L lv wr) : Inv2 w0 p v (M + 1) R L lv wr := by
  obtain ⟨T, N, F, hN, r⟩ := h
  exact ⟨T, N, F, by omega, r⟩
/-- The reference's Used where there is nothing. -/
theorem usedR_nil (R : Nat) (w : World) (h : w.heap[R]? = some (.cells #[.int .i64 4096, .slice none 0 0] 43 (0, 0))) : Calls Try.prog 18 #[.pointer (some ⟨R, 0, none⟩)] w fun e w' => e = .returned (.int .i64 0) ∧ w' = w := by
  have c1 : w.cell? ⟨R, 1, none⟩ = some (.slice none 0 0) := by unfold World.cell?; rw [h]; rfl
  clear h
  go_enter Try.func18, Try.ntmps18
  go_wp2
  refine wp_loop_rounds 1 ?_
  rw [rounds_succ]
  go_wp2
  go_ret
  exact ⟨rfl, rfl⟩
theorem tmod_range (n : Int) : -100 < n.tmod 100 ∧ n.tmod 100 < 100 := by
  have h1 := Int.tmod_lt_of_pos n (b := 100) (by decide)
  have h2 := Int.lt_tmod_of_pos n (b := 100) (by decide)
  omega
theorem thing_wf {T : List Th} {most : Nat} {id n a : Int} {T' : List Th} (h : thingF T most id n = (a, 0, T')) (hg : used T ≤ 4096) : (Lit.int .i64 a).wf = true := by
  unfold thingF at h
  split at h
  · simp at h
  · unfold putF at h
    split at h
    · simp at h
    · simp at h
      obtain ⟨rfl, _⟩ := h
      have := wf_nat (k := used T + 1) (by omega)
      push_cast at this
      exact this

set_option maxRecDepth 100000 in
set_option maxHeartbeats 4000000 in
theorem stays_core (a0 : Option Addr) (c0 : Nat) (ids : List Int) (at_ v : Int) (a3 : Option Addr) (c3 : Nat) (acts : List ActV) (w : World) (b0 o0 b3 o3 : Nat)
    (h0 : 0 < ids.length → a0 = some ⟨b0, o0, none⟩ ∧ b0 < w.heap.size) (HC0 : Hid (∀ k (h : k < ids.length), w.cell? ⟨b0, o0 + k, none⟩ = some (.int .i64 ids[k])))
    (h3 : 0 < acts.length → a3 = some ⟨b3, o3, none⟩ ∧ b3 < w.heap.size) (HC3 : Hid (∀ k (h : k < acts.length), ActAt w b3 (o3 + 7 * k) acts[k])) :
    Calls Try.prog 4 #[.slice a0 ids.length c0, .int .i64 at_, .int .i64 v, .slice a3 acts.length c3] w fun e w' => e = .returned (.bool true) ∧ Below w.heap.size w w' := by
  go_enter Try.func4, Try.ntmps4
  go_wp2_with fail
  refine (new7 4096 w (by omega) (by omega)).mono ?_
  rintro e w1 ⟨ad, F1, rfl, hT, hF, hb⟩
  have HI : Hid (Inv w (.pointer (some ad)) v 0 w1 (.slice none 0 0)) := ⟨[], 0, F1, [], Nat.le_refl _, Nat.le_refl _, hT, hF, World.ownsRow_nil _ _ _ _, (fun g hg => by cases hg), (fun a ha => by cases ha), hb⟩
  clear hT hF hb
  go_wp2
  go_loopw [11, 12] (fun lv i wr => ∃ k : Nat, k ≤ ids.length ∧ k ≤ 40 ∧ i = .int .i64 k ∧ Hid (Inv w (.pointer (some ad)) v k wr lv)) (fun _ i _ => 40 - (intOf i).toNat)
  case atStart => exact ⟨0, Nat.zero_le _, by omega, rfl, HI⟩
  case round =>
    obtain ⟨k, hk, hk40, rfl, hi⟩ := hrel
    by_cases hlt : k < ids.length ∧ k < 40
    · obtain ⟨hl1, hl2⟩ := hlt
      obtain ⟨rfl, hb0⟩ := h0 (by omega)
      obtain ⟨T, N, F, L, hN, hL, hT, hF, ho, hl, hs, hb⟩ := hi.out
      have hcell := (hb.cell (p := ⟨b0, o0 + k, none⟩) hb0).trans (HC0.out k hl1)
      have htm := tmod_range (ids[k])
      have hth := thing13 hT ((ids[k]).tmod 100) 2 (by omega)
      generalize hx : ids[k] = x at hcell htm hth
      clear hx
      have hS : ∀ a ∈ L, Stay (thingF T 4096 (x.tmod 100) 2).2.2 v a ∧ (Lit.int .i64 a).wf = true := fun a ha => ⟨(hs a ha).1.thing _ _ _, (hs a ha).2⟩
      have hmade := fun e w2 h => Inv.made (p := .pointer (some ad)) (e := e) (w2 := w2) hN hL hF ho hl hS hb h
      have hnew := fun a T' (h : thingF T 4096 (x.tmod 100) 2 = (a, 0, T')) => And.intro (stay_new h htm.2 v) (thing_wf h hT.1.2.1)
      obtain ⟨⟨A, E, T'⟩, hr⟩ : ∃ r, thingF T 4096 (x.tmod 100) 2 = r := ⟨_, rfl⟩
      rw [hr] at hth hS hmade hnew
      have HTH := Lib.hid hth
      have HMADE := Lib.hid hmade
      have HNEW := Lib.hid hnew
      have HS := Lib.hid hS
      clear hth hT hF ho hl hs hb hi hS hmade hnew hr
      by_cases hE : E = 0
      · subst hE
        obtain ⟨⟨hs1, hs2⟩, hwfA⟩ := HNEW.out A T' rfl
        go_wp2_with fail
        refine HTH.out.mono ?_
        rintro e w2 h2
        have HM2 := Lib.hid (HMADE.out e w2 h2)
        obtain ⟨rfl, _⟩ := h2
        obtain ⟨F2, hT2, hF2, ho2, hl2, hb2, _⟩ := HM2.out
        have HO2 := Lib.hid ho2
        go_wp2_with (at_builtin; refine wpList_appI rfl (.tmp 50) (.tmp 52) rfl u11 (.slice (some ⟨w2.heap.size, 0, none⟩) 1 1) L [A] rfl rfl (HO2.out.al _) (ri_one _ _ _ _) ?hlen ?_)
        case hlen => simp only [List.length_singleton]; omega
        intro lv2 w3 ho3 hg3 hl3
        have hc3 : Chg (fun g => u11.ownBlock = some g) w2 w3 := (Chg.alloc _ w2 _).trans (Chg.grown (F := fun g => u11.ownBlock = some g) hg3 (fun _ e => e)) (fun _ e => .inl e)
        have hT3 := hT2.chg hc3 (fun g hg e => (hl2 g e).2 hg)
        have hb3 : Below w.heap.size w w3 := hb2.trans (hc3.below hb2.size (fun g e => (hl2 g e).1))
        have hl3' : ∀ g, lv2.ownBlock = some g → w.heap.size ≤ g ∧ ¬ F2 g := fun g hg => by
          rcases hl3 with e | e
          · exact hl2 g (e.symm.trans hg)
          · have e1 := Option.some.inj (e.symm.trans hg)
            have e2 : (w2.alloc (.cells #[.int .i64 A] 2)).heap.size = w2.heap.size + 1 := by simp
            have := hb2.size
            exact ⟨by omega, fun hf => by have := hT2.2.1 g hf; omega⟩
        have HSET := Lib.hid (set14 hT3 A 1 v hwfA)
        have HINV : Hid (∀ w4, SPost w3 F2 (.pointer (some ad)) 4096 (N + 1) (setF T' A 1 v) (.returned (.int .i64 (setF T' A 1 v).1)) w4 → Inv w (.pointer (some ad)) v (k + 1) w4 lv2) := by
          rintro w4 ⟨_, hT4, hc4⟩
          refine ⟨_, N + 1, F2, L ++ [A], by omega, by simp; omega, hT4, hF2, ho3.chg hc4 (fun g hg => (hl3' g hg).2), hl3', ?_, hb3.trans (hc4.below hb3.size hF2)⟩
          intro a ha
          rcases List.mem_append.1 ha with h | h
          · exact ⟨(HS.out a h).1.set _ _ _ (.inr ⟨rfl, rfl⟩), (HS.out a h).2⟩
          · simp at h
            subst h
            exact ⟨hs2, hwfA⟩
        rw [hs1] at HINV
        have HR1 := Lib.hid hs1
        clear hT2 hF2 ho2 hl2 hb2 ho3 hg3 hl3 hc3 hT3 hb3 hl3' hs1 hs2 hwfA
        go_wp2_with fail
        refine HSET.out.mono ?_
        rintro e w4 h4
        obtain ⟨rfl, h4b⟩ := h4
        have HI4 := Lib.hid (HINV.out w4 ⟨by rw [HR1.out], h4b⟩)
        rw [HR1.out]
        clear h4b
        go_wp2
        go_roundw
        case rel => exact ⟨k + 1, by omega, by omega, by go_num, HI4⟩
        case measure => simp [intOf]; omega
      · have hE2 : (E == 0) = false := by simpa using hE
        have hE3 : (E != 0) = true := by simpa using hE
        clear HNEW
        go_wp2_with fail
        refine HTH.out.mono ?_
        rintro e w2 h2
        obtain ⟨_, _, _, _, _, _, hI⟩ := HMADE.out e w2 h2
        have HI2 := Lib.hid hI
        obtain ⟨rfl, _⟩ := h2
        clear hI
        go_wp2
        go_roundw
        case rel => exact ⟨k + 1, by omega, by omega, by go_num, HI2⟩
        case measure => simp [intOf]; omega
    · have hI0 : Hid (Inv w (.pointer (some ad)) v 40 wr u11) := by
        obtain ⟨T, N, F, L, hN, hL, r⟩ := hi.out
        exact ⟨T, N, F, L, by omega, by omega, r⟩
      clear hi
      rcases (by omega : ¬ k < ids.length ∨ (k < ids.length ∧ ¬ k < 40)) with hA | ⟨hA, hB⟩
      all_goals (
        go_wp2
        obtain ⟨L, hL, hI2⟩ := hI0.out.box
        have HI2 := Lib.hid hI2
        have HLL := Lib.hid hL
        obtain ⟨R, hR⟩ : ∃ R, wr.heap.size = R := ⟨_, rfl⟩
        rw [hR] at HI2 ⊢
        clear hI2 hL hI0 hA hR
        generalize wr.alloc (.cells #[.int .i64 4096, .slice none 0 0] 43) = w2 at *
        go_loopw [16] (fun i wr => ∃ k : Nat, k ≤ acts.length ∧ k ≤ 40 ∧ i = .int .i64 k ∧ Hid (Inv2 w (.pointer (some ad)) v (40 + k) R L u11 wr)) (fun i _ => 40 - (intOf i).toNat)
        case atStart => exact ⟨0, Nat.zero_le _, by omega, rfl, HI2⟩
        case round =>
          obtain ⟨k, hk, hk40, rfl, hi⟩ := hrel
          by_cases hlt : k < acts.length ∧ k < 40
          · obtain ⟨hl1, hl2⟩ := hlt
            obtain ⟨rfl, hb3⟩ := h3 (by omega)
            obtain ⟨T, N, F, hN, hT, hF, ho, hl, hs, hb, hRF, hRb⟩ := hi.out
            obtain ⟨x0, x1, x2, x3, x4, x5, x6, q0, q1, q2, q4, q5⟩ := HC3.out k hl1
            rw [Nat.mul_comm 7 k] at x0 x1 x2 x4 x5
            have y0 := (hb.cell (p := ⟨b3, o3 + k * 7, none⟩) hb3).trans x0
            have y1 := (hb.cell (p := ⟨b3, o3 + k * 7 + 1, none⟩) hb3).trans x1
            have y2 := (hb.cell (p := ⟨b3, o3 + k * 7 + 2, none⟩) hb3).trans x2
            have y4 := (hb.cell (p := ⟨b3, o3 + k * 7 + 4, none⟩) hb3).trans x4
            have y5 := (hb.cell (p := ⟨b3, o3 + k * 7 + 5, none⟩) hb3).trans x5
            clear x0 x1 x2 x3 x4 x5 x6
            generalize acts[k] = x at *
            have hdr : Chg (fun _ => False) wr wr.drew := (Chg.refl _ wr).drew
            have hTd := hT.chg hdr (fun _ _ e => e)
            have hbd : Below w.heap.size w wr.drew := hb.trans (hdr.below hb.size (fun _ e => e.elim))
            have HTH := Lib.hid (thing13 hTd x.id x.n (by omega))
            have HAR := Lib.hid (array15 hTd x.id x.n (by omega))
            have HSE := Lib.hid (set14 hTd x.at_ 0 x.v q4)
            have HMA := Lib.hid (fun e w6 h => Inv2.made (p := .pointer (some ad)) (e := e) (w2 := w6) hN hF (ho.chg hdr (fun _ _ e => e)) hl (fun a ha => ⟨(hs a ha).1.array 4096 x.id x.n, (hs a ha).2⟩) hbd hRF hRb h)
            have HMS := Lib.hid (fun e w6 h => Inv2.set (p := .pointer (some ad)) (e := e) (w2 := w6) hN hF (ho.chg hdr (fun _ _ e => e)) hl (fun a ha => ⟨(hs a ha).1.set x.at_ 0 x.v (.inl rfl), (hs a ha).2⟩) hbd hRF hRb h)
            have HMM := Lib.hid (hi.out.more)
            have HMT := Lib.hid (fun e w6 h => Inv2.made (p := .pointer (some ad)) (e := e) (w2 := w6) hN hF (ho.chg hdr (fun _ _ e => e)) hl (fun a ha => ⟨(hs a ha).1.thing 4096 x.id x.n, (hs a ha).2⟩) hbd hRF hRb h)
            by_cases hk0 : x.kind = 0
            · rw [hk0] at y0
              go_wp2
              go_still_tail 11, (by kernel_rfl)
              change wpList _ _ _ _ _ wr.drew
              clear hN hT hF ho hl hs hb hRF hRb hdr hTd hbd hi
              generalize wr.drew = w5 at *
              go_wp2_with fail
              refine HTH.out.mono ?_
              rintro e w6 h6
              have HI6 := Lib.hid (HMT.out e w6 h6)
              obtain ⟨rfl, _⟩ := h6
              go_wp2
              go_roundw
              case rel => exact ⟨k + 1, by omega, by omega, by go_num, HI6⟩
              case measure => simp [intOf]; omega
            by_cases hk1 : x.kind = 1
            · rw [hk1] at y0
              go_wp2
              go_still_tail 11, (by kernel_rfl)
              change wpList _ _ _ _ _ wr.drew
              clear hN hT hF ho hl hs hb hRF hRb hdr hTd hbd hi
              generalize wr.drew = w5 at *
              go_wp2_with fail
              refine HTH.out.mono ?_
              rintro e w6 h6
              have HI6 := Lib.hid (HMT.out e w6 h6)
              obtain ⟨rfl, _⟩ := h6
              go_wp2
              go_roundw
              case rel => exact ⟨k + 1, by omega, by omega, by go_num, HI6⟩
              case measure => simp [intOf]; omega
            by_cases hk2 : x.kind = 2
            · rw [hk2] at y0
              go_wp2
              go_still_tail 11, (by kernel_rfl)
              change wpList _ _ _ _ _ wr.drew
              clear hN hT hF ho hl hs hb hRF hRb hdr hTd hbd hi
              generalize wr.drew = w5 at *
              go_wp2_with fail
              refine HAR.out.mono ?_
              rintro e w6 h6
              have HI6 := Lib.hid (HMA.out e w6 h6)
              obtain ⟨rfl, _⟩ := h6
              go_wp2
              go_roundw
              case rel => exact ⟨k + 1, by omega, by omega, by go_num, HI6⟩
              case measure => simp [intOf]; omega
            by_cases hk4 : x.kind = 4
            · rw [hk4] at y0
              go_wp2
              go_still_tail 11, (by kernel_rfl)
              change wpList _ _ _ _ _ wr.drew
              clear hN hT hF ho hl hs hb hRF hRb hdr hTd hbd hi
              generalize wr.drew = w5 at *
              go_wp2_with fail
              refine HSE.out.mono ?_
              rintro e w6 h6
              have HI6 := Lib.hid (HMS.out e w6 h6)
              obtain ⟨rfl, _⟩ := h6
              go_wp2
              go_roundw
              case rel => exact ⟨k + 1, by omega, by omega, by go_num, HI6⟩
              case measure => simp [intOf]; omega
            by_cases hk5 : x.kind = 5
            · rw [hk5] at y0
              go_wp2
              go_still_tail 11, (by kernel_rfl)
              change wpList _ _ _ _ _ wr.drew
              clear hN hT hF ho hl hs hb hRF hRb hdr hTd hbd hi
              generalize wr.drew = w5 at *
              go_wp2_with fail
              refine HSE.out.mono ?_
              rintro e w6 h6
              have HI6 := Lib.hid (HMS.out e w6 h6)
              obtain ⟨rfl, _⟩ := h6
              go_wp2
              go_roundw
              case rel => exact ⟨k + 1, by omega, by omega, by go_num, HI6⟩
              case measure => simp [intOf]; omega
            have b0 : (x.kind == 0) = false := by simpa using hk0
            have b1 : (x.kind == 1) = false := by simpa using hk1
            have b2 : (x.kind == 2) = false := by simpa using hk2
            have b4 : (x.kind == 4) = false := by simpa using hk4
            have b5 : (x.kind == 5) = false := by simpa using hk5
            clear hN hT hF ho hl hs hb hRF hRb hdr hTd hbd hi HTH HMT HAR HMA HSE HMS
            go_wp2
            go_roundw
            case rel => exact ⟨k + 1, by omega, by omega, by go_num, HMM⟩
            case measure => simp [intOf]; omega
          · obtain ⟨T, N, F, hN, hT, hF, ho, hl, hs, hb, hRF, hRb⟩ := hi.out
            have HT3 := Lib.hid hT
            have HS3 := Lib.hid hs
            have HB3 := Lib.hid hb
            have HRB := Lib.hid hRb
            obtain ⟨la, lc, rfl, hlc, _, hcl⟩ := ho.ri
            have HCL := Lib.hid hcl
            clear hN hT hF ho hl hs hb hRF hRb hi hcl
            rcases (by omega : ¬ k < acts.length ∨ (k < acts.length ∧ ¬ k < 40)) with hA | ⟨hA, hB⟩
            all_goals (
              go_wp2
              clear hA
              have hLL := HLL.out
              go_loop [17] (fun i => ∃ j : Nat, j ≤ L.length ∧ i = .int .i64 j) (fun i => L.length - (intOf i).toNat)
              case atStart => exact ⟨0, Nat.zero_le _, rfl⟩
              case round =>
                obtain ⟨j, hj, rfl⟩ := hrel
                by_cases hjl : j < L.length
                · obtain ⟨g, o, rfl, hgl, hcell⟩ := HCL.out (fun e => by rw [e] at hjl; simp at hjl)
                  have hc := hcell j hjl
                  obtain ⟨hst, hwf⟩ := HS3.out L[j] (List.getElem_mem hjl)
                  have hg := get16 HT3.out L[j] 1 hwf
                  have ht := type17 HT3.out L[j] hwf
                  rw [stay_get hst] at hg
                  obtain ⟨q, hq, hq100⟩ := stay_type hst
                  rw [hq] at ht
                  unfold two at hg ht
                  have HG := Lib.hid hg
                  have HTY := Lib.hid ht
                  generalize L[j] = y at *
                  clear hg ht hst hwf hcell hq
                  go_wp2_with fail
                  refine HG.out.mono ?_
                  rintro e w6 ⟨rfl, rfl⟩
                  go_wp2_with fail
                  refine HTY.out.mono ?_
                  rintro e w7 ⟨rfl, rfl⟩
                  go_wp2
                  go_round
                  case rel => exact ⟨j + 1, by omega, by go_num⟩
                  case measure => simp [intOf]; omega
                · go_wp2_with fail
                  refine (usedR_nil _ _ HRB.out).mono ?_
                  rintro e w6 ⟨rfl, rfl⟩
                  go_wp2_with fail
                  refine (known8 _).mono ?_
                  rintro e w7 ⟨rfl, hb7⟩
                  have HB7 := Lib.hid (HB3.out.trans (hb7.mono HB3.out.size))
                  clear hb7
                  go_wp2
                  go_ret
                  exact ⟨rfl, HB7.out⟩))
end Go.Proofs.Ytefiliomfiomfac
