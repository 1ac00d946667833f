/- BinBack: any numbers and texts, one behind the other, are got again as they were: the law's walk, where what it reads is small. -/
import Derived.Test.YtefiliomfiomfaaBack
namespace Go.Proofs.Ytefiliomfiomfaa
open Go.RowKit

theorem sB_self (s : ByteArray) : sB s.data.toList = s := rfl
/-- GetText at a text that stands there. -/
theorem gtF_one (s : ByteArray) (hs : s.size ≤ 1048576) (q r : List UInt8) : gtF (q ++ (one s ++ r)) (q.length : Int) (s.size : Int) = (s.data.toList, (q.length : Int) + ((one s).length : Int), 0) := by
  have hk := size_ok s (by omega)
  have hg : getF (q ++ (one s ++ r)) (q.length : Int) = ((s.size : Int), (q.length : Int) + ((enc (zig (s.size : Int))).length : Int), 0) := by
    unfold one
    rw [List.append_assoc]
    exact getF_enc (s.size : Int) hk.1 hk.2 q (s.data.toList ++ r)
  have hsz := Lib.size_eq s
  have hl : (q ++ (one s ++ r)).length = q.length + ((enc (zig (s.size : Int))).length + s.size) + r.length := by
    unfold one
    simp only [List.length_append]
    omega
  unfold gtF
  rw [hg]
  simp only
  rw [if_neg (by simp), if_neg (by omega), if_neg (by rw [hl]; omega)]
  have e1 : ((q.length : Int) + ((enc (zig (s.size : Int))).length : Int)).toNat = q.length + (enc (zig (s.size : Int))).length := by omega
  have e2 : ((s.size : Int)).toNat = s.size := by omega
  rw [e1, e2]
  have e3 : (q ++ (one s ++ r)).drop (q.length + (enc (zig (s.size : Int))).length) = s.data.toList ++ r := by
    unfold one
    rw [List.append_assoc, ← List.append_assoc, ← List.length_append, List.drop_left]
  rw [e3, hsz, List.take_left]
  have e4 : (one s).length = (enc (zig (s.size : Int))).length + s.size := by unfold one; rw [List.length_append]; omega
  rw [e4, ← hsz]
  congr 2
  omega

theorem RdI.cells {w : World} {a : Option Addr} {n c : Nat} {l : List Int} (h : RdI w (.slice a n c) l) (h0 : 0 < l.length) : ∃ b o, a = some ⟨b, o, none⟩ ∧ b < w.heap.size ∧ ∀ i (h : i < l.length), w.cell? ⟨b, o + i, none⟩ = some (.int .i64 (l[i]'h)) := by
  obtain ⟨_, a1, c1, e, _, hc⟩ := h
  injection e with e1 e2 e3
  subst e1
  exact hc (by intro e; subst e; simp at h0)
theorem RdS.cells {w : World} {a : Option Addr} {n c : Nat} {l : List ByteArray} (h : RdS w (.slice a n c) l) (h0 : 0 < l.length) : ∃ b o, a = some ⟨b, o, none⟩ ∧ b < w.heap.size ∧ ∀ i (h : i < l.length), w.cell? ⟨b, o + i, none⟩ = some (.string (l[i]'h)) := by
  obtain ⟨a1, c1, e, _, hc⟩ := h
  injection e with e1 e2 e3
  subst e1
  exact hc (by intro e; subst e; simp at h0)

set_option maxRecDepth 100000 in
set_option maxHeartbeats 8000000 in
theorem back_core (a0 : Option Addr) (c0 : Nat) (l : List Int) (a1 : Option Addr) (c1 : Nat) (ss : List ByteArray) (w : World) (b0 o0 b1 o1 : Nat)
    (ha0 : 0 < l.length → a0 = some ⟨b0, o0, none⟩ ∧ b0 < w.heap.size) (HC0 : Hid (∀ k (h : k < l.length), w.cell? ⟨b0, o0 + k, none⟩ = some (.int .i64 l[k])))
    (ha1 : 0 < ss.length → a1 = some ⟨b1, o1, none⟩ ∧ b1 < w.heap.size) (HC1 : Hid (∀ k (h : k < ss.length), w.cell? ⟨b1, o1 + k, none⟩ = some (.string ss[k])))
    (hL : l.length ≤ 1048576) (hS : ss.length ≤ 1048576)
    (XE XT : Nat → List UInt8) (P Q : Nat → Int) (N : Nat)
    (HA : Hid (∀ w', Below w.heap.size w w' → Calls Try.prog 18 #[.slice a0 l.length c0] w' fun e w'' => ∃ v', e = .returned v' ∧ Rd w'' v' (XT 0) ∧ Below w'.heap.size w' w''))
    (HP : Hid (∀ v k (h : k < l.length) w', Rd w' v (XE k) → Calls Try.prog 19 #[v, .int .i64 l[k]] w' fun e w'' => ∃ v', e = .returned v' ∧ Rd w'' v' (XE (k + 1)) ∧ Below w'.heap.size w' w''))
    (HT : Hid (∀ v k (h : k < ss.length) w', Rd w' v (XT k) → Calls Try.prog 13 #[v, .string ss[k]] w' fun e w'' => ∃ v', e = .returned v' ∧ Rd w'' v' (XT (k + 1)) ∧ Below w'.heap.size w' w''))
    (HG : Hid (∀ v k (h : k < l.length) w', Rd w' v (XT ss.length) → Calls Try.prog 11 #[v, .int .i64 (P k)] w' fun e w'' => e = .returned (.tuple #[.int .i64 l[k], .int .i64 (P (k + 1)), .int .i64 0]) ∧ Below w'.heap.size w' w''))
    (HH : Hid (∀ v k (h : k < ss.length) w', Rd w' v (XT ss.length) → Calls Try.prog 14 #[v, .int .i64 (Q k), .int .i64 (ss[k].size : Int)] w' fun e w'' => e = .returned (.tuple #[.string ss[k], .int .i64 (Q (k + 1)), .int .i64 0]) ∧ Below w'.heap.size w' w''))
    (HE0 : Hid (XE 0 = [])) (HE : Hid (XE l.length = XT 0)) (HP0 : Hid (P 0 = 0)) (HPQ : Hid (P l.length = Q 0)) (HQN : Hid (Q ss.length = (N : Int))) (HN : Hid ((XT ss.length).length = N)) :
    Calls Try.prog 6 #[.slice a0 l.length c0, .slice a1 ss.length c1] w fun e w' => e = .returned (.bool true) ∧ Below w.heap.size w w' := by
  go_enter Try.func6, Try.ntmps6
  go_wp2_with fail
  refine (HA.out _ (Below.refl _ _)).mono ?_
  rintro e w1 ⟨own, rfl, hr, hb⟩
  have HR1 := Lib.hid hr
  have HB1 := Lib.hid hb
  clear hr hb
  go_wp2
  go_loopw [6, 7] (fun v i wr => ∃ k : Nat, k ≤ l.length ∧ i = .int .i64 k ∧ Hid (Rd wr v (XE k)) ∧ Hid (Rd wr own (XT 0)) ∧ Hid (Below w.heap.size w wr)) (fun _ i _ => l.length - (intOf i).toNat)
  case atStart =>
    refine ⟨0, Nat.zero_le _, rfl, ?_, HR1, HB1⟩
    show Rd _ _ _
    rw [HE0.out]
    exact (Own.nil _ 0).rd
  case round =>
    obtain ⟨k, hk, rfl, hv, ho, hbl⟩ := hrel
    by_cases hlt : k < l.length
    · obtain ⟨rfl, hb0⟩ := ha0 (by omega)
      have hcell : wr.cell? ⟨b0, o0 + k, none⟩ = some (.int .i64 l[k]) := (hbl.out.cell (p := ⟨b0, o0 + k, none⟩) hb0).trans (HC0.out k hlt)
      have hpp := HP.out u6 k hlt wr hv.out
      generalize l[k] = x at *
      have HPP := Lib.hid hpp
      clear hpp
      go_wp2_with fail
      refine HPP.out.mono ?_
      rintro e w2 ⟨v1, rfl, hr2, hb2⟩
      have HR2 := Lib.hid hr2
      have HB2 := Lib.hid hb2
      clear hr2 hb2
      go_wp2
      go_roundw
      case rel => exact ⟨k + 1, by omega, by go_num, HR2, ho.out.below HB2.out, hbl.out.trans (HB2.out.mono hbl.out.size)⟩
      case measure => simp [intOf]; omega
    · have : k = l.length := by omega
      subst this
      have HV : Hid (Rd wr u6 (XT 0)) := by
        have := hv.out
        rw [HE.out] at this
        exact this
      clear hv
      have hc1 := HV.out.text
      have hc2 := ho.out.text
      go_wp2
      clear hc1 hc2 HV
      go_loopw [5, 8] (fun v i wr => ∃ k : Nat, k ≤ ss.length ∧ i = .int .i64 k ∧ Hid (Rd wr v (XT k)) ∧ Hid (Below w.heap.size w wr)) (fun _ i _ => ss.length - (intOf i).toNat)
      case atStart => exact ⟨0, Nat.zero_le _, rfl, ho, hbl⟩
      case round =>
        clear ho hbl
        obtain ⟨k, hk, rfl, hv, hbl⟩ := hrel
        by_cases hlt : k < ss.length
        · obtain ⟨rfl, hb1⟩ := ha1 (by omega)
          have hcell := (hbl.out.cell (p := ⟨b1, o1 + k, none⟩) hb1).trans (HC1.out k hlt)
          have hpp := HT.out u5 k hlt _ hv.out
          generalize ss[k] = x at *
          have HPP := Lib.hid hpp
          clear hpp
          go_wp2_with fail
          refine HPP.out.mono ?_
          rintro e w2 ⟨v1, rfl, hr2, hb2⟩
          have HR2 := Lib.hid hr2
          have HB2 := Lib.hid hb2
          clear hr2 hb2
          go_wp2
          go_roundw
          case rel => exact ⟨k + 1, by omega, by go_num, HR2, hbl.out.trans (HB2.out.mono hbl.out.size)⟩
          case measure => simp [intOf]; omega
        · have : k = ss.length := by omega
          subst this
          obtain ⟨av, cv, e, _⟩ := id hv.out
          rw [HN.out] at e
          subst e
          go_wp2
          go_loopw [9, 10] (fun p i wr => ∃ k : Nat, k ≤ l.length ∧ i = .int .i64 k ∧ p = .int .i64 (P k) ∧ Hid (Rd wr (.slice av N cv) (XT ss.length)) ∧ Hid (Below w.heap.size w wr)) (fun _ i _ => l.length - (intOf i).toNat)
          case atStart => exact ⟨0, Nat.zero_le _, rfl, by rw [HP0.out], hv, hbl⟩
          case round =>
            clear hv hbl
            obtain ⟨k, hk, rfl, rfl, hv, hbl⟩ := hrel
            by_cases hlt : k < l.length
            · obtain ⟨rfl, hb0⟩ := ha0 (by omega)
              have hcell := (hbl.out.cell (p := ⟨b0, o0 + k, none⟩) hb0).trans (HC0.out k hlt)
              have hpp := HG.out _ k hlt _ hv.out
              generalize l[k] = x at *
              have HPP := Lib.hid hpp
              have HCC := Lib.hid hcell
              clear hpp hcell
              go_wp2_with fail
              refine HPP.out.mono ?_
              rintro e w2 ⟨rfl, hb2⟩
              have hcell := (hb2.cell (p := ⟨b0, o0 + k, none⟩) (by have := hbl.out.size; show b0 < _; omega)).trans HCC.out
              have HB2 := Lib.hid hb2
              clear hb2
              go_wp2
              go_roundw
              case rel => exact ⟨k + 1, by omega, by go_num, rfl, hv.out.below HB2.out, hbl.out.trans (HB2.out.mono hbl.out.size)⟩
              case measure => simp [intOf]; omega
            · have : k = l.length := by omega
              subst this
              rw [HPQ.out]
              go_wp2
              go_loopw [9, 14] (fun p i wr => ∃ k : Nat, k ≤ ss.length ∧ i = .int .i64 k ∧ p = .int .i64 (Q k) ∧ Hid (Rd wr (.slice av N cv) (XT ss.length)) ∧ Hid (Below w.heap.size w wr)) (fun _ i _ => ss.length - (intOf i).toNat)
              case atStart => exact ⟨0, Nat.zero_le _, rfl, rfl, hv, hbl⟩
              case round =>
                clear hv hbl
                obtain ⟨k, hk, rfl, rfl, hv, hbl⟩ := hrel
                by_cases hlt : k < ss.length
                · obtain ⟨rfl, hb1⟩ := ha1 (by omega)
                  have hcell := (hbl.out.cell (p := ⟨b1, o1 + k, none⟩) hb1).trans (HC1.out k hlt)
                  have hpp := HH.out _ k hlt _ hv.out
                  generalize ss[k] = x at *
                  have HPP := Lib.hid hpp
                  have HCC := Lib.hid hcell
                  clear hpp
                  go_wp2_with fail
                  refine HPP.out.mono ?_
                  rintro e w2 ⟨rfl, hb2⟩
                  have hcell := (hb2.cell (p := ⟨b1, o1 + k, none⟩) (by have := hbl.out.size; show b1 < _; omega)).trans HCC.out
                  have HB2 := Lib.hid hb2
                  clear hb2
                  go_wp2
                  go_roundw
                  case rel => exact ⟨k + 1, by omega, by go_num, rfl, hv.out.below HB2.out, hbl.out.trans (HB2.out.mono hbl.out.size)⟩
                  case measure => simp [intOf]; omega
                · have : k = ss.length := by omega
                  subst this
                  rw [HQN.out]
                  go_wp2_with fail
                  refine (known9 _).mono ?_
                  rintro e w2 ⟨rfl, hb2⟩
                  have HB2 := Lib.hid hb2
                  clear hb2
                  go_wp2
                  go_ret
                  exact ⟨rfl, hbl.out.trans (HB2.out.mono hbl.out.size)⟩
end Go.Proofs.Ytefiliomfiomfaa
