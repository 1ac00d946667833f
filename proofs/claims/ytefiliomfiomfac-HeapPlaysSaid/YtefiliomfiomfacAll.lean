/- All: heap's, the reference's. -/
import Derived.Test.YtefiliomfiomfacSend
import Derived.Test.YtefiliomfiomfacRBytes
namespace Go.Proofs.Ytefiliomfiomfac
open Go.RowKit Go.Maps

/-- Where the first k things begin. -/
def addrK (T : List Th) (k : Nat) : List Int := (List.range k).map fun j => (pos T j : Int) + 1
theorem addrK_succ (T : List Th) (k : Nat) : addrK T (k + 1) = addrK T k ++ [(pos T k : Int) + 1] := by
  unfold addrK
  rw [List.range_succ, List.map_append]
  rfl
theorem len_addrK (T : List Th) (k : Nat) : (addrK T k).length = k := by simp [addrK]
theorem pos_cons (t : Th) (r : List Th) (k : Nat) : pos (t :: r) (k + 1) = 1 + t.w.length + pos r k := by simp [pos, usedT_cons]
theorem ats_pos : ∀ (L : List Rec) (s : Nat), AtsFrom s L → ∀ k (h : k < L.length), L[k].at_ = (s : Int) + (pos (L.map thOf) k : Int) + 1
  | [], _, _, k, h => by simp at h
  | r :: l, s, h, 0, _ => by
    rw [List.getElem_cons_zero, h.1]
    show _ = (s : Int) + ((0 : Nat) : Int) + 1
    omega
  | r :: l, s, h, k + 1, hk => by
    rw [List.getElem_cons_succ, ats_pos l _ h.2 k (by simpa using hk), List.map_cons, pos_cons]
    show _ = (s : Int) + ((1 + r.w.length + pos (l.map thOf) k : Nat) : Int) + 1
    push_cast
    omega
theorem pos_succ (T : List Th) (k : Nat) (h : k < T.length) : pos T (k + 1) = pos T k + 1 + T[k].w.length := by
  unfold pos
  rw [List.take_succ_eq_append_getElem h, usedT_append, usedT_cons, usedT_nil]
  omega
theorem pos_all (T : List Th) : pos T T.length = used T := by unfold pos; rw [List.take_length]
/-- What a call that makes numbers leaves. -/
def FI' (w : World) (l : List Int) (e : Ending) (w' : World) : Prop := ∃ v, e = .returned v ∧ OI w' v l ∧ (∀ g, v.ownBlock = some g → w.heap.size ≤ g) ∧ Below w.heap.size w w'
theorem OI.nil (w : World) : OI w (.slice none 0 0) [] := World.ownsRow_nil _ _ _ _
set_option maxHeartbeats 1000000 in
theorem allR28 {w : World} {F : Nat → Prop} {p : Value} {L : List Rec} {most : Nat} (h : RT w F p L most) : Calls Try.prog 28 #[p] w (FI' w (addrK (L.map thOf) L.length)) := by
  obtain ⟨hl, hu⟩ := h.len
  have HH := Lib.hid h
  have HA := Lib.hid (ats_pos L 0 h.2.1)
  have HS := Lib.hid (addrK_succ (L.map thOf))
  obtain ⟨R, hp⟩ := h.p
  subst hp
  clear h
  generalize L.map thOf = T at *
  go_enter Try.func28, Try.ntmps28
  go_wp2
  go_loopw [3, 4] (fun v i wr => ∃ k : Nat, k ≤ L.length ∧ i = .int .i64 k ∧ Hid (OI wr v (addrK T k)) ∧ Hid (∀ g, v.ownBlock = some g → w.heap.size ≤ g) ∧ Hid (Below w.heap.size w wr)) (fun _ i _ => L.length - (intOf i).toNat)
  case atStart => exact ⟨0, Nat.zero_le _, rfl, Lib.hid (OI.nil _), Lib.hid (fun g hg => by cases hg), Lib.hid (Below.refl _ _)⟩
  case round =>
    obtain ⟨k, hk, rfl, ho, hg, hb⟩ := hrel
    obtain ⟨R', a, c, e0, c0, c1, hs⟩ := (HH.out.below hb.out).see
    injection e0 with e0
    injection e0 with e0
    injection e0 with e0
    subst e0
    clear c0
    by_cases hkl : k < L.length
    · obtain ⟨b, rfl, y0, _, _, _⟩ := hs k hkl
      have hat := HA.out k hkl
      have HK := Lib.hid (HS.out k)
      rw [hat, Int.natCast_zero, Int.zero_add] at y0
      have HLN : Hid ((addrK T k).length + ([(pos T k : Int) + 1] : List Int).length ≤ 1048576) := Lib.hid (by rw [len_addrK]; simp; omega)
      clear hs hat
      go_wp2_with (at_builtin; refine wpList_appI rfl (.tmp 14) (.tmp 23) rfl u3 (.slice (some ⟨wr.heap.size, 0, none⟩) 1 1) (addrK T k) [(pos T k : Int) + 1] rfl rfl (ho.out.al _) (ri_one _ _ _ _) HLN.out ?_)
      intro v2 w3 ho2 hg2 hl2
      obtain ⟨g2, b2⟩ := app_step hg.out hb.out hg2 (by simpa using hl2)
      have HG2 := Lib.hid g2
      have HB2 := Lib.hid b2
      have HO2 : Hid (OI w3 v2 (addrK T (k + 1))) := Lib.hid (by rw [HK.out]; exact ho2)
      clear ho2 hg2 hl2 g2 b2 y0 c1
      go_wp2
      go_roundw
      case rel => exact ⟨k + 1, by omega, by go_num, HO2, HG2, HB2⟩
      case measure => simp [intOf]; omega
    · have hkm : k = L.length := by omega
      subst hkm
      clear hs
      go_wp2
      go_ret
      exact ⟨_, rfl, ho.out, hg.out, hb.out⟩
set_option maxHeartbeats 1000000 in
theorem all27 {w : World} {F : Nat → Prop} {p : Value} {T : List Th} {most N : Nat} (h : HT w F p T most N) : Calls Try.prog 27 #[p] w (FI' w (addrK T T.length)) := by
  have hus : used T ≤ 4096 := by have := h.1.1; have := h.1.2.1; omega
  have HH := Lib.hid h
  have HGW := Lib.hid (fun k hk => h.1.w k hk)
  have HS := Lib.hid (addrK_succ T)
  have HPB := Lib.hid (pos_bound T)
  have HPS := Lib.hid (pos_succ T)
  have HPA := Lib.hid (pos_all T)
  have HRH := Lib.hid (raw_head T)
  have HLT := Lib.hid (len_used T)
  obtain ⟨hb0, hp⟩ : ∃ hb, p = .pointer (some ⟨hb, 0, none⟩) := by obtain ⟨_, _, hb, _, _, _, _, _, e, _⟩ := h; exact ⟨hb, e⟩
  subst hp
  clear h
  go_enter Try.func27, Try.ntmps27
  go_wp2
  go_loopw [3, 4] (fun v i wr => ∃ k : Nat, k ≤ T.length ∧ i = .int .i64 ((pos T k : Int) + 1) ∧ Hid (OI wr v (addrK T k)) ∧ Hid (∀ g, v.ownBlock = some g → w.heap.size ≤ g) ∧ Hid (Below w.heap.size w wr)) (fun _ i _ => 5000 - (intOf i).toNat)
  case atStart => exact ⟨0, Nat.zero_le _, rfl, Lib.hid (OI.nil _), Lib.hid (fun g hg => by cases hg), Lib.hid (Below.refl _ _)⟩
  case round =>
    obtain ⟨k, hk, rfl, ho, hg, hb⟩ := hrel
    have HW := Lib.hid (HH.out.chg (Chg.of_below (F := fun _ => False) hb.out) (fun _ _ e => e))
    have HU := Lib.hid (used12 HW.out)
    by_cases hkl : k < T.length
    · have hpb := HPB.out k hkl
      have HPS1 := Lib.hid (HPS.out k hkl)
      have hrh := HRH.out k hkl
      have hgw := HGW.out k hkl
      have HK := Lib.hid (HS.out k)
      have HLN : Hid ((addrK T k).length + ([(pos T k : Int) + 1] : List Int).length ≤ 1048576) := Lib.hid (by rw [len_addrK]; have := HLT.out; simp; omega)
      generalize pos T k = q at *
      generalize T[k].id = id at *
      generalize T[k].w.length = n at *
      have hm : ((id : Int) * 65536 + (n : Int)).tmod 65536 = (n : Int) := tmod_head id n hgw
      go_wp2_with fail
      refine HU.out.mono ?_
      rintro e w2 ⟨rfl, rfl⟩
      go_wp2_with (at_builtin; refine wpList_appI rfl (.tmp 21) (.tmp 23) rfl u3 (.slice (some ⟨w2.heap.size, 0, none⟩) 1 1) (addrK T k) [(q : Int) + 1] rfl rfl (ho.out.al _) (ri_one _ _ _ _) HLN.out ?_)
      intro v2 w3 ho2 hg2 hl2
      obtain ⟨g2, b2⟩ := app_step hg.out hb.out hg2 hl2
      have HG2 := Lib.hid g2
      have HB2 := Lib.hid b2
      have HO2 : Hid (OI w3 v2 (addrK T (k + 1))) := Lib.hid (by rw [HK.out]; exact ho2)
      obtain ⟨c0, g, cc, hgc⟩ : ∃ (c0 : True) (g cc : Nat), w3.cell? ⟨hb0, 0, none⟩ = some (.slice (some ⟨g, 0, none⟩) (used T) cc) ∧ w3.cell? ⟨g, q, none⟩ = some (.int .i64 ((id : Int) * 65536 + (n : Int))) := by
        obtain ⟨_, _, hb', mb, ms, v, nb, ns, e, hin, _⟩ := HH.out.chg (Chg.of_below (F := fun _ => False) b2) (fun _ _ e => e)
        injection e with e
        injection e with e
        injection e with e
        subst e
        have hw := hin.words
        rcases hw.2 with ⟨_, h0⟩ | ⟨g, cap, cur, e, _⟩
        · have : (stOf T most nb ns).ws.length = used T := rfl
          omega
        · subst e
          refine ⟨trivial, g, cap, hin.c0, ?_⟩
          have := World.ownsRow.cellAt hw q (by show q < used T * 1; omega)
          rw [this, List.getElem?_map]
          show ((raw T)[q]?).map _ = _
          rw [hrh]
          rfl
      obtain ⟨hgc1, hgc2⟩ := hgc
      clear ho2 hg2 hl2 g2 b2 hrh HK
      go_wp2
      go_roundw
      case rel => exact ⟨k + 1, by omega, by rw [HPS1.out]; go_num, HO2, HG2, HB2⟩
      case measure => simp [intOf]; omega
    · have hkm : k = T.length := by omega
      subst hkm
      have hpa := HPA.out
      rw [hpa]
      go_wp2_with fail
      refine HU.out.mono ?_
      rintro e w2 ⟨rfl, rfl⟩
      go_wp2
      go_ret
      exact ⟨_, rfl, ho.out, hg.out, hb.out⟩
end Go.Proofs.Ytefiliomfiomfac
