/- The reference's Raw. -/
import Derived.Test.YtefiliomfiomfacAll
import Derived.Deep.RegionHeld3
import Derived.Deep.AppendLies
import Derived.OwnWalk
namespace Go.Proofs.Ytefiliomfiomfac
open Go.RowKit Go.Maps

def rawK (L : List Rec) (k : Nat) : List Int := raw ((L.take k).map thOf)
theorem rawK_succ (L : List Rec) (k : Nat) (h : k < L.length) : rawK L (k + 1) = (rawK L k ++ [(L[k].id : Int) * 65536 + (L[k].w.length : Int)]) ++ L[k].w := by
  unfold rawK
  rw [List.take_succ_eq_append_getElem h, List.map_append, raw_append, List.append_assoc]
  congr 1
  show raw [thOf L[k]] = _
  simp [raw, rawOf, thOf]
theorem len_rawK (L : List Rec) (k : Nat) : (rawK L k).length = UT L k := rfl
theorem rawK_all (L : List Rec) : rawK L L.length = raw (L.map thOf) := by unfold rawK; rw [List.take_length]
set_option maxRecDepth 100000 in
set_option maxHeartbeats 2000000 in
theorem rawR26 {w : World} {F : Nat → Prop} {p : Value} {L : List Rec} {most : Nat} (h : RT w F p L most) : Calls Try.prog 26 #[p] w (FI' w (raw (L.map thOf))) := by
  obtain ⟨hl, hu⟩ := h.len
  have HH := Lib.hid h
  have HS := Lib.hid (rawK_succ L)
  have HUT := Lib.hid (UT_step L)
  have HUL := Lib.hid (UT_le L)
  have HE := Lib.hid (rawK_all L)
  have HIDS : Hid (∀ k (h : k < L.length), L[k].id ≤ 65535) := Lib.hid (fun k hk => h.1.2.2 (thOf L[k]) (List.mem_map.2 ⟨_, List.getElem_mem hk, rfl⟩))
  have HF := Lib.hid h.2.2.1
  obtain ⟨R, hp⟩ := h.p
  subst hp
  rw [← HE.out]
  clear h
  go_enter Try.func26, Try.ntmps26
  go_wp2
  go_loopw [3, 4] (fun v i wr => ∃ k : Nat, k ≤ L.length ∧ i = .int .i64 k ∧ Hid (OI wr v (rawK L k)) ∧ Hid (∀ g, v.ownBlock = some g → w.heap.size ≤ g) ∧ Hid (Below w.heap.size w wr)) (fun _ i _ => L.length - (intOf i).toNat)
  case atStart => exact ⟨0, Nat.zero_le _, rfl, Lib.hid (OI.nil _), Lib.hid (fun g hg => by cases hg), Lib.hid (Below.refl _ _)⟩
  case round =>
    obtain ⟨k, hk, rfl, ho, hg, hb⟩ := hrel
    have hrt := HH.out.below hb.out
    obtain ⟨R', a, c, e0, c0, c1, hs⟩ := hrt.see
    injection e0 with e0
    injection e0 with e0
    injection e0 with e0
    subst e0
    clear c0
    by_cases hkl : k < L.length
    · obtain ⟨b, rfl, _, y1, y2, _⟩ := hs k hkl
      have how := hrt.ows k hkl
      obtain ⟨wa, wc, hv⟩ := how.shape
      rw [hv] at y2 how
      have HWI := Lib.hid how.ri
      have HWBq : ∀ q, L[k].v.ownBlock = some q → q < w.heap.size := (HH.out.ows k hkl).lt
      rw [hv] at HWBq
      have HK := Lib.hid (HS.out k hkl)
      have hu1 := HUT.out k hkl
      have hu2 := HUL.out (k + 1)
      have hid := HIDS.out k hkl
      have HLN : Hid ((rawK L k).length + 1 + L[k].w.length ≤ 4096) := Lib.hid (by rw [len_rawK]; omega)
      have hRw : R < w.heap.size := by
        obtain ⟨_, _, hF, R2, _, e, _, _, hFR, _⟩ := HH.out
        injection e with e
        injection e with e
        injection e with e
        subst e
        exact hF _ hFR
      have hbw : b < w.heap.size := by
        obtain ⟨_, _, hF, R2, v, e, hb2, hor, hFR, hvF, _⟩ := HH.out
        injection e with e
        injection e with e
        injection e with e
        subst e
        have : wr.cell? ⟨R, 1, none⟩ = some v := by
          rw [hb.out.cell (p := ⟨R, 1, none⟩) hRw]
          unfold World.cell?
          rw [hb2]
          rfl
        rw [c1] at this
        obtain rfl := Option.some.inj this
        exact hF b (hvF b rfl).1
      clear hs hrt hv how hu1 hu2
      generalize L[k].id = id at *
      generalize hlw : L[k].w = lw at *
      clear hlw
      generalize hnl : lw.length = n at *
      have HNL := Lib.hid hnl
      have hn4 : n ≤ 4096 := by have := HLN.out; omega
      clear hnl
      have e1 : IntKind.i64.wrap ((id : Int) * 65536) = (id : Int) * 65536 := IntWalk.i64_in _ (by omega)
      have e2 : IntKind.i64.wrap ((id : Int) * 65536 + (n : Int)) = (id : Int) * 65536 + (n : Int) := IntWalk.i64_in _ (by omega)
      obtain ⟨i0, hi0, hz0, hz1, hz2⟩ := info_parts info2
      obtain ⟨m, hm⟩ : ∃ m, m = (rawK L k).length := ⟨_, rfl⟩
      have hown : wr.ownsRow 0 2 1 u3 m ((rawK L k).map (Value.int .i64)) := by
        rw [hm]
        exact ho.out
      have HWB : Hid (∀ q, (Value.slice wa n wc).ownBlock = some q → q < w.heap.size) := Lib.hid HWBq
      have agb : u3.ownBlock ≠ some b := fun e => by have := hg.out b e; omega
      have agR : u3.ownBlock ≠ some R := fun e => by have := hg.out R e; omega
      have hbw' : b < wr.heap.size := Nat.lt_of_lt_of_le hbw hb.out.size
      have hRw' : R < wr.heap.size := Nat.lt_of_lt_of_le hRw hb.out.size
      have HM := Lib.hid hm
      have hm4 : m ≤ 4096 := by have := HLN.out; omega
      have hn1 : m + 1 ≤ maxLen := by unfold maxLen; omega
      have hby : (m + 1) * 8 ≤ 140737488355328 := by omega
      obtain ⟨xs, hxs⟩ : ∃ xs, xs = (rawK L k).map (Value.int .i64) := ⟨_, rfl⟩
      rw [← hxs] at hown
      have HXS := Lib.hid hxs
      have E2 := Lib.hid e2
      clear hxs ho hm e2 HWBq
      go_wp2_with fail
      go_region_held3 (fun w' => w'.cell? ⟨R, 1, none⟩ = some (.slice (some ⟨b, 0, none⟩) L.length c) ∧ w'.cell? ⟨b, k * 4 + 1, none⟩ = some (.int .i64 (id : Int)) ∧ w'.cell? ⟨b, k * 4 + 2, none⟩ = some (.slice wa n wc))
        (first
          | go_keep
          | (go_split_ands
             refine ⟨?_, ?_, ?_⟩
             · (rw [hgrow.cell_far _ (by simp; omega) (Ne.symm agR)]; assumption)
             · (rw [hgrow.cell_far _ (by simp; omega) (Ne.symm agb)]; assumption)
             · (rw [hgrow.cell_far _ (by simp; omega) (Ne.symm agb)]; assumption)))
        ((refine step_append_lies _ (by rfl) _ _ _ (by rfl) 0 2 i0 _ 1 8 Try.underlying37 hi0 hz0 hz1 hz2 rfl (by omega) u3 m xs (by rfl) ((hown.alloc _).drew)
            ⟨wr.heap.size, 0, none⟩ 1 1 [.int .i64 (IntKind.i64.wrap ((id : Int) * 65536 + (n : Int)))] (by rfl) (by rfl) (World.news_of_block (cs := #[.int .i64 (IntKind.i64.wrap ((id : Int) * 65536 + (n : Int)))]) (t := 2) (fr := (0, 0)) (heap_alloc_new wr _)) (by simp [Value.oneCell'])
            (by omega) hn1 hby (by simp) (wr.heap.size + 1) (by simp) ?_; intro gg cap w1 hown1 hgrow hat hlt))
      have hc1 : Chg (fun g => u3.ownBlock = some g) wr w1 := (Chg.alloc _ wr _).drew.trans (Chg.grown (F := fun g => u3.ownBlock = some g) hgrow (fun _ e => e)) (fun _ e => .inl e)
      have c1' := (World.cell?_of_block (a := ⟨R, 1, none⟩) (hc1.block R hRw' agR)).trans c1
      have y2' := (World.cell?_of_block (a := ⟨b, k * 4 + 2, none⟩) (hc1.block b hbw' agb)).trans y2
      have HO1 : Hid (OI w1 (.slice (some ⟨gg, 0, none⟩) (m + 1) cap) (rawK L k ++ [(id : Int) * 65536 + (n : Int)])) := Lib.hid (by
        unfold OI
        rw [List.length_append, List.map_append, ← HXS.out, ← HM.out, ← E2.out]
        exact hown1)
      have HG1 : Hid (∀ g, (Value.slice (some ⟨gg, 0, none⟩) (m + 1) cap).ownBlock = some g → w.heap.size ≤ g) := Lib.hid fun g hgk => by
        have e1 : gg = g := Option.some.inj hgk
        rcases hat with e | e
        · exact hg.out g (by rw [e, e1])
        · have := hb.out.size
          omega
      have HB1 : Hid (Below w.heap.size w w1) := Lib.hid (hb.out.trans (hc1.below hb.out.size hg.out))
      have HRI : Hid (RI w1 (.slice wa n wc) lw) := Lib.hid (HWI.out.chg hc1 (fun q hq e => by have := HWB.out q hq; have := hg.out q e; omega))
      have HLN2 : Hid ((rawK L k ++ [(id : Int) * 65536 + (n : Int)]).length + lw.length ≤ 1048576) := Lib.hid (by rw [List.length_append, ← HM.out, HNL.out]; simp; omega)
      clear hown1 hgrow hat hlt hown agb agR hby hi0 hz0 hz1 hz2 c1 y2 hc1 y1 e1 hn1 HM
      go_wp2_with (at_builtin; refine wpList_appI rfl (.tmp 36) (.tmp 44) rfl (.slice (some ⟨gg, 0, none⟩) (m + 1) cap) (.slice wa n wc) (rawK L k ++ [(id : Int) * 65536 + (n : Int)]) lw rfl rfl HO1.out HRI.out HLN2.out ?_)
      intro v2 w3 ho2 hg2 hl2
      have hc3 : Chg (fun g => (Value.slice (some ⟨gg, 0, none⟩) (m + 1) cap).ownBlock = some g) w1 w3 := Chg.grown (F := fun g => (Value.slice (some ⟨gg, 0, none⟩) (m + 1) cap).ownBlock = some g) hg2 (fun _ e => e)
      have HB3 : Hid (Below w.heap.size w w3) := Lib.hid (HB1.out.trans (hc3.below HB1.out.size HG1.out))
      have HG3 : Hid (∀ g, v2.ownBlock = some g → w.heap.size ≤ g) := Lib.hid fun g hgk => by
        rcases hl2 with e | e
        · exact HG1.out g (e.symm.trans hgk)
        · have := Option.some.inj (e.symm.trans hgk)
          have := HB1.out.size
          omega
      have HO3 : Hid (OI w3 v2 (rawK L (k + 1))) := Lib.hid (by rw [HK.out, List.append_assoc]; exact ho2)
      clear ho2 hg2 hl2 hc3 c1' y2'
      go_wp2
      go_roundw
      case rel => exact ⟨k + 1, by omega, by go_num, HO3, HG3, HB3⟩
      case measure => simp [intOf]; omega
    · have hkm : k = L.length := by omega
      subst hkm
      clear hs hrt
      go_wp2
      go_ret
      exact ⟨_, rfl, ho.out, hg.out, hb.out⟩
end Go.Proofs.Ytefiliomfiomfac
