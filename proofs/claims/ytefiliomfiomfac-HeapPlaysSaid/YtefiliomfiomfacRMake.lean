/- The reference's Thing, Array. -/
import Derived.Test.YtefiliomfiomfacRPut
import Derived.Test.YtefiliomfiomfacText
namespace Go.Proofs.Ytefiliomfiomfac
open Go.RowKit Go.Maps

theorem RPost.same {w w' : World} {F : Nat → Prop} {p : Value} {L : List Rec} {most : Nat} {x y : Int} {e : Ending} (h : RT w F p L most) (he : e = .returned (.tuple #[.int .i64 x, .int .i64 y])) (hc : Chg (fun _ => False) w w') : RPost w F p most (x, y, L.map thOf) e w' :=
  ⟨he, F, L, h.chg hc (fun _ _ e => e), rfl, hc.mono (fun _ e => e.elim), fun _ hk => .inl hk⟩
theorem RPost.of {w0 w w' : World} {F : Nat → Prop} {p : Value} {most : Nat} {r : Int × Int × List Th} {e : Ending} {G : Nat → Prop} (h : RPost w F p most r e w') (hc : Chg G w0 w) (hG : ∀ k, G k → w0.heap.size ≤ k) : RPost w0 F p most r e w' := by
  obtain ⟨he, F', L', h1, h2, h3, h4⟩ := h
  refine ⟨he, F', L', h1, h2, ?_, fun k hk => ?_⟩
  · have c1 : Chg (fun k => F k) w0 w := ⟨hc.os, hc.tape, hc.output, hc.size, fun i hi _ => hc.block i hi (fun q => by have := hG i q; omega)⟩
    exact c1.trans h3 (fun _ e => .inl e)
  · rcases h4 k hk with e | e
    · exact .inl e
    · exact .inr (Nat.le_trans hc.size e)
theorem putR45 {w : World} {F : Nat → Prop} {p : Value} {L : List Rec} {most : Nat} (h : RT w F p L most) (id : Nat) (hid : id ≤ 65535) (l : List Int) (v : Value) (hw : RI w v l) (hln : l.length ≤ 8192) :
    Calls Try.prog 45 #[p, .int .i64 (id : Int), v] w (RPost w F p most (putF (L.map thOf) most id l)) := by
  unfold putF
  by_cases hf : most < used (L.map thOf) + (l.length + 1)
  · rw [if_pos hf]
    obtain ⟨a, c, rfl, _⟩ := (show RI w v l from hw)
    refine (put_bad h id hid l a _ c rfl hln hf).mono ?_
    rintro e w' ⟨rfl, k, rfl⟩
    exact RPost.same h rfl ((Chg.refl _ w).drewN k)
  · rw [if_neg hf]
    obtain ⟨a, c, rfl, hq⟩ := (show RI w v l from hw)
    exact put_ok h id hid l a c hw hln (by omega)
set_option maxHeartbeats 1000000 in
theorem thingR35 {w : World} {F : Nat → Prop} {p : Value} {L : List Rec} {most : Nat} (h : RT w F p L most) (id n : Int) :
    Calls Try.prog 35 #[p, .int .i64 id, .int .i64 n] w (RPost w F p most (thingF (L.map thOf) most id n)) := by
  have H := Lib.hid h
  unfold thingF
  by_cases hb : id < 0 ∨ 65535 < id ∨ n < 0 ∨ 4096 < n
  · rw [if_pos hb]
    have hd : (((decide (id < 0) || decide (65535 < id)) || decide (n < 0)) || decide (4096 < n)) = true := by
      simp only [Bool.or_eq_true, decide_eq_true_eq]
      omega
    obtain ⟨R, rfl⟩ := h.p
    clear h
    by_cases q1 : id < 0
    · go_enter Try.func35, Try.ntmps35
      go_wp2
      go_ret2
      exact RPost.same H.out rfl (Chg.refl _ _)
    · by_cases q2 : 65535 < id
      · go_enter Try.func35, Try.ntmps35
        go_wp2
        go_ret2
        exact RPost.same H.out rfl (Chg.refl _ _)
      · by_cases q3 : n < 0
        · go_enter Try.func35, Try.ntmps35
          go_wp2
          go_ret2
          exact RPost.same H.out rfl (Chg.refl _ _)
        · have q4 : 4096 < n := by omega
          go_enter Try.func35, Try.ntmps35
          go_wp2
          go_ret2
          exact RPost.same H.out rfl (Chg.refl _ _)
  · rw [if_neg hb]
    obtain ⟨i, rfl⟩ : ∃ i : Nat, id = (i : Int) := ⟨id.toNat, by omega⟩
    obtain ⟨m, rfl⟩ : ∃ m : Nat, n = (m : Int) := ⟨n.toNat, by omega⟩
    rw [Int.toNat_natCast, Int.toNat_natCast]
    have hi : i ≤ 65535 := by omega
    have hm : m ≤ 4096 := by omega
    obtain ⟨i0, hi0, hz0, hz1, hz2⟩ := info_parts info2
    have HP := Lib.hid (fun (w' : World) (v : Value) (hc : Chg (fun _ => False) w w') (hw : RI w' v (List.replicate m 0)) => (putR45 (h.chg hc (fun _ _ e => e)) i hi _ v hw (by rw [List.length_replicate]; omega)))
    generalize putF (L.map thOf) most i (List.replicate m 0) = res at *
    obtain ⟨r1, r2, r3⟩ := res
    obtain ⟨R, rfl⟩ := h.p
    clear h hb
    go_enter Try.func35, Try.ntmps35
    go_wp2_with (at_make; refine wpList_make_full w rfl _ _ 37 rfl 0 2 i0 (.int .i64 0) 1 Try.underlying37 hi0 hz0 hz1 .i64 .i64 _ _ m rfl rfl rfl rfl (by rw [hz2]; omega) (by unfold maxLen; omega) (Nat.zero_le _) ?_)
    intro w3 ho hg
    have hc3 : Chg (fun _ => False) w w3 := Chg.grown hg (fun _ e => by cases e)
    have ho3 : OI w3 (.slice (some ⟨w.heap.size, 0, none⟩) m m) (List.replicate m 0) := by
      unfold OI
      rw [List.length_replicate, ← madeCells_zero]
      exact ho
    have HCALL := Lib.hid (HP.out w3 _ hc3 ho3.ri)
    have HC3 := Lib.hid hc3
    clear ho hg hc3 ho3
    go_wp2_with fail
    refine HCALL.out.mono ?_
    rintro e w4 ⟨rfl, h4⟩
    have H4 : Hid (RPost w (F) (.pointer (some ⟨R, 0, none⟩)) most (r1, r2, r3) (.returned (.tuple #[.int .i64 r1, .int .i64 r2])) w4) := Lib.hid (RPost.of ⟨rfl, h4⟩ HC3.out (fun _ e => e.elim))
    clear h4
    go_wp2
    go_ret2
    exact H4.out
set_option maxHeartbeats 1000000 in
theorem arrayR36 {w : World} {F : Nat → Prop} {p : Value} {L : List Rec} {most : Nat} (h : RT w F p L most) (id n : Int) :
    Calls Try.prog 36 #[p, .int .i64 id, .int .i64 n] w (RPost w F p most (arrayF (L.map thOf) most id n)) := by
  have H := Lib.hid h
  unfold arrayF
  by_cases hb : id < 0 ∨ 65535 < id ∨ n < 0 ∨ 4095 < n
  · rw [if_pos hb]
    obtain ⟨R, rfl⟩ := h.p
    clear h
    by_cases q1 : id < 0
    · clear hb
      go_enter Try.func36, Try.ntmps36
      go_wp2
      go_ret2
      exact RPost.same H.out rfl (Chg.refl _ _)
    · by_cases q2 : 65535 < id
      · clear hb
        go_enter Try.func36, Try.ntmps36
        go_wp2
        go_ret2
        exact RPost.same H.out rfl (Chg.refl _ _)
      · by_cases q3 : n < 0
        · clear hb
          go_enter Try.func36, Try.ntmps36
          go_wp2
          go_ret2
          exact RPost.same H.out rfl (Chg.refl _ _)
        · have q4 : 4095 < n := by omega
          clear hb
          go_enter Try.func36, Try.ntmps36
          go_wp2
          go_ret2
          exact RPost.same H.out rfl (Chg.refl _ _)
  · rw [if_neg hb]
    obtain ⟨i, rfl⟩ : ∃ i : Nat, id = (i : Int) := ⟨id.toNat, by omega⟩
    obtain ⟨m, rfl⟩ : ∃ m : Nat, n = (m : Int) := ⟨n.toNat, by omega⟩
    rw [Int.toNat_natCast, Int.toNat_natCast]
    have hi : i ≤ 65535 := by omega
    have hm : m ≤ 4095 := by omega
    obtain ⟨i0, hi0, hz0, hz1, hz2⟩ := info_parts info2
    have HP := Lib.hid (fun (w' : World) (v : Value) (hc : Chg (fun _ => False) w w') (hw : RI w' v ((m : Int) :: List.replicate m 0)) => (putR45 (h.chg hc (fun _ _ e => e)) i hi _ v hw (by rw [List.length_cons, List.length_replicate]; omega)))
    generalize putF (L.map thOf) most i ((m : Int) :: List.replicate m 0) = res at *
    obtain ⟨r1, r2, r3⟩ := res
    obtain ⟨R, rfl⟩ := h.p
    clear h hb
    go_enter Try.func36, Try.ntmps36
    go_wp2_with (at_make; refine wpList_make_full w rfl _ _ 37 rfl 0 2 i0 (.int .i64 0) 1 Try.underlying37 hi0 hz0 hz1 .i64 .i64 _ _ (m + 1) rfl rfl rfl rfl (by rw [hz2]; omega) (by unfold maxLen; omega) (Nat.zero_le _) ?_)
    intro w3 ho hg
    have hc3 : Chg (fun _ => False) w w3 := Chg.grown hg (fun _ e => by cases e)
    have ho3 : OI w3 (.slice (some ⟨w.heap.size, 0, none⟩) (m + 1) (m + 1)) (List.replicate (m + 1) 0) := by
      unfold OI
      rw [List.length_replicate, ← madeCells_zero]
      exact ho
    have hcell : w3.cell? ⟨w.heap.size, 0, none⟩ = some (.int .i64 0) := by
      have := World.ownsRow.cellAt (cap := m + 1) (n := m + 1) (by have h := ho3; unfold OI at h; rw [List.length_replicate] at h; exact h) 0 (by omega)
      rw [this]
      rfl
    have hfz : w3.frozen? ⟨w.heap.size, 0, none⟩ = false := World.ownsRow.frozenAt (cap := m + 1) (n := m + 1) (by have h := ho3; unfold OI at h; rw [List.length_replicate] at h; exact h) 0
    have ho4 : OI (w3.setCell ⟨w.heap.size, 0, none⟩ (.int .i64 (m : Int))) (.slice (some ⟨w.heap.size, 0, none⟩) (m + 1) (m + 1)) ((m : Int) :: List.replicate m 0) := by
      have := OI.stored ho3 0 (m : Int)
      rw [List.replicate_succ, List.set_cons_zero] at this
      exact this
    have hc4 : Chg (fun _ => False) w (w3.setCell ⟨w.heap.size, 0, none⟩ (.int .i64 (m : Int))) := by
      have c1 : Chg (fun k => k = w.heap.size) w3 (w3.setCell ⟨w.heap.size, 0, none⟩ (.int .i64 (m : Int))) := Chg.setCell w3 _ rfl
      exact hc3.trans c1 (fun k e => .inr (by rw [e]; exact Nat.le_refl _))
    have HCALL := Lib.hid (HP.out _ _ hc4 ho4.ri)
    have HC4 := Lib.hid hc4
    clear ho hg hc3 ho3 ho4 hc4
    go_wp2_with fail
    refine HCALL.out.mono ?_
    rintro e w4 ⟨rfl, h4⟩
    have H4 : Hid (RPost w (F) (.pointer (some ⟨R, 0, none⟩)) most (r1, r2, r3) (.returned (.tuple #[.int .i64 r1, .int .i64 r2])) w4) := Lib.hid (RPost.of ⟨rfl, h4⟩ HC4.out (fun _ e => e.elim))
    clear h4
    go_wp2
    go_ret2
    exact H4.out
end Go.Proofs.Ytefiliomfiomfac
