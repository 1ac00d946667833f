/- HeapPlays: the walk. -/
import Derived.Test.YtefiliomfiomfacAlike
import Derived.Test.YtefiliomfiomfacKnown
namespace Go.Proofs.Ytefiliomfiomfac
open Go.RowKit Go.Maps

theorem where_wf {T : List Th} {x : ActV} (hT : used T ≤ 4096) (hx : (Lit.int .i64 x.at_).wf = true) : (Lit.int .i64 (whereF T x)).wf = true := by
  unfold whereF
  split
  · next h =>
    have hj : x.at_.toNat % T.length < T.length := Nat.mod_lt _ h.2.2
    have := pos_bound T _ hj
    have := wf_nat (k := pos T (x.at_.toNat % T.length) + 1) (by omega)
    push_cast at this
    exact this
  · exact hx
section
variable {B : Nat} {w : World} {p q : Value} {T : List Th} {most N : Nat}
theorem whereB (h : B1 B w p q T T most N) (x : ActV) : Calls Try.prog 20 #[q, actV x] w fun e w' => e = .returned (.int .i64 (whereF T x)) ∧ B1 B w' p q T T most N ∧ Below w.heap.size w w' := by
  obtain ⟨h0, F, G, L, h1, h2, h3, h4⟩ := id h
  subst h3
  refine (where20 h2 x).mono ?_
  rintro e w' ⟨rfl, hb⟩
  exact ⟨rfl, h.below hb, hb⟩
theorem usedB (h : B1 B w p q T T most N) : Calls Try.prog 12 #[p] w fun e w' => e = .returned (.int .i64 (used T : Int)) ∧ w' = w := by
  obtain ⟨h0, F, G, L, h1, h2, h3, h4⟩ := h
  exact used12 h1
theorem usedRB (h : B1 B w p q T T most N) : Calls Try.prog 18 #[q] w fun e w' => e = .returned (.int .i64 (used T : Int)) ∧ w' = w := by
  obtain ⟨h0, F, G, L, h1, h2, h3, h4⟩ := h
  subst h3
  exact usedR18 h2
theorem capB (h : B1 B w p q T T most N) : Calls Try.prog 23 #[p] w fun e w' => e = .returned (.int .i64 (most : Int)) ∧ w' = w := by
  obtain ⟨h0, F, G, L, h1, h2, h3, h4⟩ := h
  exact cap23 h1
theorem rawB (h : B1 B w p q T T most N) : Calls Try.prog 25 #[p] w (FI' w (raw T)) := by
  obtain ⟨h0, F, G, L, h1, h2, h3, h4⟩ := h
  refine (raw25 h1).mono ?_
  rintro e w' ⟨v, rfl, a1, a2, a3⟩
  exact ⟨v, rfl, a1, a3, a2.below (Nat.le_refl _) (fun _ e => e.elim)⟩
theorem rawRB (h : B1 B w p q T T most N) : Calls Try.prog 26 #[q] w (FI' w (raw T)) := by
  obtain ⟨h0, F, G, L, h1, h2, h3, h4⟩ := h
  subst h3
  exact rawR26 h2
theorem allB (h : B1 B w p q T T most N) : Calls Try.prog 27 #[p] w (FI' w (addrK T T.length)) := by
  obtain ⟨h0, F, G, L, h1, h2, h3, h4⟩ := h
  exact all27 h1
theorem allRB (h : B1 B w p q T T most N) : Calls Try.prog 28 #[q] w (FI' w (addrK T T.length)) := by
  obtain ⟨h0, F, G, L, h1, h2, h3, h4⟩ := h
  subst h3
  rw [List.length_map]
  exact allR28 h2
theorem B1.used (h : B1 B w p q T T most N) : used T ≤ 4096 ∧ T.length ≤ 4096 := by
  obtain ⟨h0, F, G, L, h1, h2, h3, h4⟩ := h
  have := h1.1.1
  have := h1.1.2.1
  have := len_used T
  omega
end
theorem sameB (l : List Int) (u v : Value) (w : World) (hu : OI w u l) (hv : OI w v l) (hl : l.length ≤ 1048576) : Calls Try.prog 24 #[u, v] w fun e w' => e = .returned (.bool true) ∧ Below w.heap.size w w' := by
  refine (same24 u v l l w hu.ri hv.ri hl).mono ?_
  rintro e w' ⟨rfl, hc⟩
  exact ⟨by simp, hc.below (Nat.le_refl _) (fun _ e => e.elim)⟩
theorem plays_bad (n : Int) (v : Value) (w : World) (h : n < 16 ∨ 4096 < n) : Calls Try.prog 5 #[.int .i64 n, v] w fun e w' => e = .returned (.bool true) ∧ Below w.heap.size w w' := by
  have H1 := Lib.hid (fun w => new_bad n w h)
  have H2 := Lib.hid (fun w => newR_bad n w h)
  clear h
  go_enter Try.func5, Try.ntmps5
  go_wp2_with fail
  refine (H1.out w).mono ?_
  rintro e w1 ⟨rfl, rfl⟩
  go_wp2_with fail
  refine (H2.out w1).mono ?_
  rintro e w2 ⟨rfl, rfl⟩
  go_wp2_with fail
  refine (known8 w2).mono ?_
  rintro e w3 ⟨rfl, hb⟩
  have HB := Lib.hid hb
  clear hb
  go_wp2
  go_ret
  exact ⟨rfl, HB.out⟩
set_option maxRecDepth 100000 in
set_option maxHeartbeats 4000000 in
theorem plays_ok (n : Nat) (h16 : 16 ≤ n) (h40 : n ≤ 4096) (a : Option Addr) (c : Nat) (l : List ActV) (w : World) (b o : Nat) (ha : 0 < l.length → a = some ⟨b, o, none⟩ ∧ b < w.heap.size) (hcs : Hid (∀ k (h : k < l.length), ActAt w b (o + 7 * k) l[k])) (hlm : l.length ≤ 9223372036854775807) :
    Calls Try.prog 5 #[.int .i64 (n : Int), .slice a l.length c] w fun e w' => e = .returned (.bool true) ∧ Below w.heap.size w w' := by
  have H1 := Lib.hid (new7 n w h16 h40)
  have H2 := Lib.hid (fun w' => newR_ok n w' h16 h40)
  have HA := Lib.hid ha
  clear ha
  go_enter Try.func5, Try.ntmps5
  go_wp2_with fail
  refine H1.out.mono ?_
  rintro e w1 ⟨ad, F, rfl, f1, f2, hb1⟩
  have HT1 := Lib.hid f1
  have HF1 := Lib.hid f2
  have HB1 := Lib.hid hb1
  clear f1 f2 hb1 H1
  go_wp2_with fail
  refine (H2.out w1).mono ?_
  rintro e w2 ⟨q, G, rfl, g1, g2, hb2⟩
  have HB2 := Lib.hid (HB1.out.trans (hb2.mono HB1.out.size))
  have HBB : Hid (B1 w.heap.size w2 (.pointer (some ad)) q [] [] n 0) := Lib.hid ⟨HB2.out.size, F, G, [], HT1.out.chg (Chg.of_below (F := fun _ => False) hb2) (fun _ _ e => e), g1, rfl, fun k hk => ⟨HF1.out k hk, fun e => by have := g2 k e; have := HT1.out.2.1 k hk; omega⟩, fun k hk => Nat.le_trans HB1.out.size (g2 k hk)⟩
  obtain ⟨R, rfl⟩ := g1.p
  clear g1 g2 hb2 HT1 HF1 HB1 H2
  go_wp2
  go_loopw [9] (fun i wr => ∃ (k : Nat) (T : List Th), k ≤ l.length ∧ k ≤ 60 ∧ i = .int .i64 k ∧ Hid (B1 w.heap.size wr (.pointer (some ad)) (.pointer (some ⟨R, 0, none⟩)) T T n k) ∧ Hid (Below w.heap.size w wr)) (fun i _ => 60 - (intOf i).toNat)
  case atStart => exact ⟨0, [], Nat.zero_le _, Nat.zero_le _, rfl, HBB, HB2⟩
  case round =>
    clear HBB HB2
    obtain ⟨k, T, hk, hk60, rfl, hbb, hbl⟩ := hrel
    by_cases hkl : k < l.length
    · by_cases hk6 : k < 60
      · obtain ⟨rfl, hbw⟩ := HA.out (by omega)
        have hact := hcs.out k hkl
        obtain ⟨x, hx⟩ : ∃ x, l[k] = x := ⟨_, rfl⟩
        rw [hx, Nat.mul_comm] at hact
        have HU := Lib.hid hbb.out.used
        have HWH := Lib.hid (whereB hbb.out x)
        obtain ⟨y0, y1, y2, y3, y4, y5, y6, z0, z1, z2, z4, z5⟩ := hact
        have HWF := Lib.hid (where_wf (T := T) (x := x) HU.out.1 z4)
        have HV := Lib.hid z5
        clear hx z0 z1 z2 z4 z5
        unfold actV at HWH
        have tr : ∀ (j : Nat), wr.cell? ⟨b, j, none⟩ = w.cell? ⟨b, j, none⟩ := fun j => hbl.out.cell (p := ⟨b, j, none⟩) hbw
        have r0 := (tr _).trans y0
        have r1 := (tr _).trans y1
        have r2 := (tr _).trans y2
        have r3 := (tr _).trans y3
        have r4 := (tr _).trans y4
        have r5 := (tr _).trans y5
        have r6 := (tr _).trans y6
        clear tr
        generalize whereF T x = at_ at *
        by_cases hs : 70000 < x.s.size
        · clear r0 r1 r2 r4 r5 r6 y0 y1 y2 y3 y4 y5 y6
          go_wp2_with fail
          refine (known8 _).mono ?_
          rintro e w3 ⟨rfl, hb3⟩
          have HB3 := Lib.hid (hbl.out.trans (hb3.mono hbl.out.size))
          clear hb3
          go_wp2
          go_ret
          exact ⟨rfl, HB3.out⟩
        · go_wp2_with fail
          refine HWH.out.mono ?_
          rintro e w3 ⟨rfl, hb3, hbl3⟩
          have hbw3 : b < wr.heap.size := Nat.lt_of_lt_of_le hbw hbl.out.size
          have tr : ∀ (j : Nat), w3.cell? ⟨b, j, none⟩ = wr.cell? ⟨b, j, none⟩ := fun j => hbl3.cell (p := ⟨b, j, none⟩) hbw3
          have s0 := (tr _).trans r0
          have s1 := (tr _).trans r1
          have s2 := (tr _).trans r2
          have s3 := (tr _).trans r3
          have s4 := (tr _).trans r4
          have s5 := (tr _).trans r5
          have s6 := (tr _).trans r6
          have HBL3 := Lib.hid (hbl.out.trans (hbl3.mono hbl.out.size))
          have HDO := Lib.hid (do21 hb3 (by omega) x at_ HWF.out HV.out)
          clear tr r0 r1 r2 r3 r4 r5 r6 hb3 hbl3
          unfold actV at HDO
          generalize doF T n x at_ = T2 at *
          go_wp2_with fail
          refine HDO.out.mono ?_
          rintro e w4 ⟨rfl, hb4, hbl4⟩
          have tr : ∀ (j : Nat), w4.cell? ⟨b, j, none⟩ = w3.cell? ⟨b, j, none⟩ := fun j => hbl4.cell (p := ⟨b, j, none⟩) hbw
          have t2 := (tr _).trans s2
          have HBL4 := Lib.hid (HBL3.out.trans hbl4)
          have HB4 := Lib.hid hb4
          have HAL := Lib.hid (alike22 hb4 at_ x.n HWF.out)
          clear tr s0 s1 s2 s3 s4 s5 s6 hb4 hbl4
          go_wp2_with fail
          refine HAL.out.mono ?_
          rintro e w5 ⟨rfl, hbl5⟩
          have HBL5 := Lib.hid (HBL4.out.trans (hbl5.mono HBL4.out.size))
          have HB5 := Lib.hid (HB4.out.below hbl5)
          have HUS := Lib.hid (usedB HB5.out)
          have HUR := Lib.hid (usedRB HB5.out)
          have HCP := Lib.hid (capB HB5.out)
          clear hbl5 t2
          go_wp2_with fail
          refine HUS.out.mono ?_
          rintro e w6 ⟨rfl, rfl⟩
          go_wp2_with fail
          refine HUR.out.mono ?_
          rintro e w7 ⟨rfl, rfl⟩
          go_wp2_with fail
          refine HCP.out.mono ?_
          rintro e w8 ⟨rfl, rfl⟩
          clear y0 y1 y2 y3 y4 y5 y6
          go_wp2
          go_roundw
          case rel => exact ⟨k + 1, T2, by omega, by omega, by go_num, HB5, HBL5⟩
          case measure => simp [intOf]; omega
      · have hk6' : k = 60 := by omega
        subst hk6'
        have HR := Lib.hid (rawB hbb.out)
        have HL := Lib.hid hbb.out.used
        have HLR : Hid ((raw T).length ≤ 1048576) := Lib.hid (show used T ≤ 1048576 by have := HL.out.1; omega)
        have HLA : Hid ((addrK T T.length).length ≤ 1048576) := Lib.hid (by rw [len_addrK]; have := HL.out.2; omega)
        go_wp2_with fail
        refine HR.out.mono ?_
        rintro e w3 ⟨v3, rfl, ho3, _, hb3⟩
        have HO3 := Lib.hid ho3
        have HS3 := Lib.hid (hbb.out.below hb3)
        have HB3 := Lib.hid (hbl.out.trans (hb3.mono hbl.out.size))
        have HRR := Lib.hid (rawRB HS3.out)
        clear ho3 hb3 HR hbb hbl
        go_wp2_with fail
        refine HRR.out.mono ?_
        rintro e w4 ⟨v4, rfl, ho4, _, hb4⟩
        have HSA := Lib.hid (sameB (raw T) v3 v4 w4 (HO3.out.chg (Chg.of_below (F := fun _ => False) hb4) (fun _ _ e => e)) ho4 HLR.out)
        have HS4 := Lib.hid (HS3.out.below hb4)
        have HB4 := Lib.hid (HB3.out.trans (hb4.mono HB3.out.size))
        clear ho4 hb4 HRR HO3 HS3 HB3
        go_wp2_with fail
        refine HSA.out.mono ?_
        rintro e w5 ⟨rfl, hb5⟩
        have HS5 := Lib.hid (HS4.out.below hb5)
        have HB5 := Lib.hid (HB4.out.trans (hb5.mono HB4.out.size))
        have HAL := Lib.hid (allB HS5.out)
        clear hb5 HSA HS4 HB4
        go_wp2_with fail
        refine HAL.out.mono ?_
        rintro e w6 ⟨v6, rfl, ho6, _, hb6⟩
        have HO6 := Lib.hid ho6
        have HS6 := Lib.hid (HS5.out.below hb6)
        have HB6 := Lib.hid (HB5.out.trans (hb6.mono HB5.out.size))
        have HAR := Lib.hid (allRB HS6.out)
        clear ho6 hb6 HAL HS5 HB5
        go_wp2_with fail
        refine HAR.out.mono ?_
        rintro e w7 ⟨v7, rfl, ho7, _, hb7⟩
        have HSA := Lib.hid (sameB (addrK T T.length) v6 v7 w7 (HO6.out.chg (Chg.of_below (F := fun _ => False) hb7) (fun _ _ e => e)) ho7 HLA.out)
        have HB7 := Lib.hid (HB6.out.trans (hb7.mono HB6.out.size))
        clear ho7 hb7 HAR HO6 HS6 HB6
        go_wp2_with fail
        refine HSA.out.mono ?_
        rintro e w8 ⟨rfl, hb8⟩
        have HB8 := Lib.hid (HB7.out.trans (hb8.mono HB7.out.size))
        clear hb8 HSA HB7
        go_wp2_with fail
        refine (known8 _).mono ?_
        rintro e w9 ⟨rfl, hb9⟩
        have HB9 := Lib.hid (HB8.out.trans (hb9.mono HB8.out.size))
        clear hb9
        go_wp2
        go_ret
        exact ⟨rfl, HB9.out⟩
    · have hkm : k = l.length := by omega
      subst hkm
      have HR := Lib.hid (rawB hbb.out)
      have HL := Lib.hid hbb.out.used
      have HLR : Hid ((raw T).length ≤ 1048576) := Lib.hid (show used T ≤ 1048576 by have := HL.out.1; omega)
      have HLA : Hid ((addrK T T.length).length ≤ 1048576) := Lib.hid (by rw [len_addrK]; have := HL.out.2; omega)
      go_wp2_with fail
      refine HR.out.mono ?_
      rintro e w3 ⟨v3, rfl, ho3, _, hb3⟩
      have HO3 := Lib.hid ho3
      have HS3 := Lib.hid (hbb.out.below hb3)
      have HB3 := Lib.hid (hbl.out.trans (hb3.mono hbl.out.size))
      have HRR := Lib.hid (rawRB HS3.out)
      clear ho3 hb3 HR hbb hbl
      go_wp2_with fail
      refine HRR.out.mono ?_
      rintro e w4 ⟨v4, rfl, ho4, _, hb4⟩
      have HSA := Lib.hid (sameB (raw T) v3 v4 w4 (HO3.out.chg (Chg.of_below (F := fun _ => False) hb4) (fun _ _ e => e)) ho4 HLR.out)
      have HS4 := Lib.hid (HS3.out.below hb4)
      have HB4 := Lib.hid (HB3.out.trans (hb4.mono HB3.out.size))
      clear ho4 hb4 HRR HO3 HS3 HB3
      go_wp2_with fail
      refine HSA.out.mono ?_
      rintro e w5 ⟨rfl, hb5⟩
      have HS5 := Lib.hid (HS4.out.below hb5)
      have HB5 := Lib.hid (HB4.out.trans (hb5.mono HB4.out.size))
      have HAL := Lib.hid (allB HS5.out)
      clear hb5 HSA HS4 HB4
      go_wp2_with fail
      refine HAL.out.mono ?_
      rintro e w6 ⟨v6, rfl, ho6, _, hb6⟩
      have HO6 := Lib.hid ho6
      have HS6 := Lib.hid (HS5.out.below hb6)
      have HB6 := Lib.hid (HB5.out.trans (hb6.mono HB5.out.size))
      have HAR := Lib.hid (allRB HS6.out)
      clear ho6 hb6 HAL HS5 HB5
      go_wp2_with fail
      refine HAR.out.mono ?_
      rintro e w7 ⟨v7, rfl, ho7, _, hb7⟩
      have HSA := Lib.hid (sameB (addrK T T.length) v6 v7 w7 (HO6.out.chg (Chg.of_below (F := fun _ => False) hb7) (fun _ _ e => e)) ho7 HLA.out)
      have HB7 := Lib.hid (HB6.out.trans (hb7.mono HB6.out.size))
      clear ho7 hb7 HAR HO6 HS6 HB6
      go_wp2_with fail
      refine HSA.out.mono ?_
      rintro e w8 ⟨rfl, hb8⟩
      have HB8 := Lib.hid (HB7.out.trans (hb8.mono HB7.out.size))
      clear hb8 HSA HB7
      go_wp2_with fail
      refine (known8 _).mono ?_
      rintro e w9 ⟨rfl, hb9⟩
      have HB9 := Lib.hid (HB8.out.trans (hb9.mono HB8.out.size))
      clear hb9
      go_wp2
      go_ret
      exact ⟨rfl, HB9.out⟩
theorem plays_row (n : Int) (a : Option Addr) (n0 c : Nat) (l : List ActV) (w : World) (_ : (Lit.int .i64 n).wf = true) (e0 : l.length = n0) (k0 : RA w (.slice a n0 c) l) (h0 : n0 ≤ maxLen) :
    Calls Try.prog 5 #[.int .i64 n, .slice a n0 c] w fun e w' => e = .returned (.bool true) ∧ Below w.heap.size w w' := by
  by_cases hn : n < 16 ∨ 4096 < n
  · exact plays_bad n _ w hn
  · obtain ⟨m, rfl⟩ : ∃ m : Nat, n = (m : Int) := ⟨n.toNat, by omega⟩
    subst e0
    obtain ⟨x3, y3, g3, _, r3⟩ := k0
    injection g3 with g3 _ _
    subst g3
    have q3 : ∃ b3 o3, (0 < l.length → a = some ⟨b3, o3, none⟩ ∧ b3 < w.heap.size) ∧ (∀ k (h : k < l.length), ActAt w b3 (o3 + 7 * k) l[k]) := by
      by_cases h : l = []
      · exact ⟨0, 0, fun h' => by rw [h] at h'; simp at h', fun k hk => by rw [h] at hk; simp at hk⟩
      · obtain ⟨b, o, e, hb, hc⟩ := r3 h
        exact ⟨b, o, fun _ => ⟨e, hb⟩, hc⟩
    obtain ⟨b3, o3, h3, hc3⟩ := q3
    exact plays_ok m (by omega) (by omega) a c l w b3 o3 h3 (Lib.hid hc3) (by unfold maxLen at h0; omega)
end Go.Proofs.Ytefiliomfiomfac
