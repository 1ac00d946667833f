/- slices.Clone, heap's Raw, the reference's Same. -/
import Derived.Test.YtefiliomfiomfacSee
namespace Go.Proofs.Ytefiliomfiomfac
open Go.RowKit Go.Maps

theorem clone44_nil (w : World) : Calls Try.prog 44 #[.slice none 0 0] w fun e w' => e = .returned (.slice none 0 0) ∧ w' = w := by
  have hq := fun w : World => Lib.run_eql_slice_nil (P := Try.prog) w 37 2 none 0 0 0 0 Try.underlying37
  go_enter Try.func44, Try.ntmps44
  go_wp2
  go_ret
  exact ⟨rfl, rfl⟩
theorem clone44_some (b : Addr) (n c : Nat) (l : List Int) (w : World) (h : RI w (.slice (some b) n c) l) (hl : l.length ≤ 1048576) : Calls Try.prog 44 #[.slice (some b) n c] w fun e w' =>
    ∃ v', e = .returned v' ∧ OI w' v' l ∧ Chg (fun _ => False) w w' ∧ (∀ k, v'.ownBlock = some k → w.heap.size ≤ k) := by
  have HO : Hid (OI (w.alloc (.cells #[] 2)) (.slice (some ⟨w.heap.size, 0, none⟩) 0 0) []) := World.ownsRow_lit w #[] 0 (Nat.zero_le _) (by unfold maxLen; omega) (by rfl)
  have HR := Lib.hid (h.al (.cells #[] 2))
  clear h
  have hq := fun w : World => Lib.run_eql_slice_nil (P := Try.prog) w 37 2 (some b) n c 0 0 Try.underlying37
  go_enter Try.func44, Try.ntmps44
  go_wp2_with (at_builtin; refine wpList_appI rfl (.tmp 5) (.tmp 6) rfl (.slice (some ⟨w.heap.size, 0, none⟩) 0 0) (.slice (some b) n c) [] l rfl rfl HO.out HR.out ?hlen ?_)
  case hlen => simpa using hl
  intro v' w' ho hg hloc
  have HO' := Lib.hid ho
  have HC : Hid (Chg (fun _ => False) w w') := (Chg.alloc (fun _ => False) w _).trans (Chg.one hg) (fun k e => .inr (by rw [e]; exact Nat.le_refl _))
  have HL : Hid (∀ k, v'.ownBlock = some k → w.heap.size ≤ k) := fun k hk => by
    rcases hloc with e | e
    · have := Option.some.inj (e.symm.trans hk); exact Nat.le_of_eq this
    · have := Option.some.inj (e.symm.trans hk)
      have hs : (w.alloc (.cells #[] 2)).heap.size = w.heap.size + 1 := by simp
      omega
  clear ho hg hloc
  go_wp2
  go_ret
  exact ⟨v', rfl, by simpa using HO'.out, HC.out, HL.out⟩
/-- What a slice of its own leaves. -/
def Fresh (w : World) (l : List Int) (e : Ending) (w' : World) : Prop := ∃ v', e = .returned v' ∧ OI w' v' l ∧ Chg (fun _ => False) w w' ∧ (∀ k, v'.ownBlock = some k → w.heap.size ≤ k)
theorem clone44 (v : Value) (l : List Int) (w : World) (h : RI w v l) (hl : l.length ≤ 1048576) : Calls Try.prog 44 #[v] w (Fresh w l) := by
  obtain ⟨a, c, rfl, h2, h3, h4⟩ := id h
  cases a with
  | none =>
    have hc := h3 rfl
    subst hc
    have : l = [] := List.eq_nil_of_length_eq_zero (by omega)
    subst this
    refine (clone44_nil w).mono ?_
    rintro e w' ⟨rfl, rfl⟩
    exact ⟨_, rfl, World.ownsRow_nil _ _ _ _, Chg.refl _ _, fun k hk => by cases hk⟩
  | some b => exact clone44_some b _ c l w h hl
theorem raw25 {w : World} {F : Nat → Prop} {p : Value} {T : List Th} {most N : Nat} (h : HT w F p T most N) : Calls Try.prog 25 #[p] w (Fresh w (raw T)) := by
  obtain ⟨hg, _, hb, mb, ms, v, nb, ns, rfl, hin, _⟩ := h
  have c0 := hin.c0
  have hu : used T ≤ 1048576 := by have := hg.1; have := hg.2.1; omega
  have HC := Lib.hid (clone44 v (raw T) w hin.words.ri hu)
  obtain ⟨a, n, c, rfl⟩ := hin.words.shape3
  clear hin hg hu
  go_enter Try.func25, Try.ntmps25
  go_wp2_with fail
  refine HC.out.mono ?_
  rintro e w1 ⟨v', rfl, h1⟩
  have H1 := Lib.hid h1
  clear h1
  go_wp2
  go_ret
  exact ⟨v', rfl, H1.out⟩
theorem raw25_nil (w : World) : Calls Try.prog 25 #[.pointer none] w fun e w' => e = .returned (.slice none 0 0) ∧ w' = w := by
  go_enter Try.func25, Try.ntmps25
  go_wp2
  go_ret
  exact ⟨rfl, rfl⟩

theorem same24 (v u : Value) (l r : List Int) (w : World) (hv : RI w v l) (hu : RI w u r) (hl : l.length ≤ 1048576) :
    Calls Try.prog 24 #[v, u] w fun e w' => e = .returned (.bool (decide (l = r))) ∧ Chg (fun _ => False) w w' := by
  obtain ⟨a, c, rfl, h2, h3, h4⟩ := hv
  obtain ⟨b, d, rfl, k2, k3, k4⟩ := hu
  by_cases hn : l.length = r.length
  · rw [← hn]
    have hI : ∃ b0 o0, (0 < l.length → a = some ⟨b0, o0, none⟩) ∧ ∀ k (h : k < l.length), w.cell? ⟨b0, o0 + k, none⟩ = some (.int .i64 l[k]) := by
      rcases Nat.eq_zero_or_pos l.length with h | h
      · exact ⟨0, 0, fun h' => by omega, fun k h' => by omega⟩
      · obtain ⟨b, o, e, _, hc⟩ := h4 (by intro e; rw [e] at h; simp at h)
        exact ⟨b, o, fun _ => e, hc⟩
    have hJ : ∃ b0 o0, (0 < l.length → b = some ⟨b0, o0, none⟩) ∧ ∀ k (h : k < r.length), w.cell? ⟨b0, o0 + k, none⟩ = some (.int .i64 r[k]) := by
      rcases Nat.eq_zero_or_pos l.length with h | h
      · exact ⟨0, 0, fun h' => by omega, fun k h' => by omega⟩
      · obtain ⟨b, o, e, _, hc⟩ := k4 (by intro e; rw [e] at hn; simp at hn; rw [hn] at h; simp at h)
        exact ⟨b, o, fun _ => e, hc⟩
    obtain ⟨b0, o0, i1, i2⟩ := hI
    obtain ⟨b1, o1, j1, j2⟩ := hJ
    have HI := Lib.hid i2
    have HJ := Lib.hid j2
    have HN := Lib.hid hn
    clear h4 k4 i2 j2 h2 k2 h3 k3 hn
    obtain ⟨L, hL⟩ : ∃ L, L = l.length := ⟨_, rfl⟩
    rw [← hL] at i1 j1 hl ⊢
    have HLL := Lib.hid hL
    clear hL
    go_enter Try.func24, Try.ntmps24
    go_wp2
    go_loopw [5] (fun i wr => ∃ k : Nat, k ≤ L ∧ i = .int .i64 k ∧ Hid (l.take k = r.take k) ∧ Hid (Chg (fun _ => False) w wr)) (fun i _ => L - (intOf i).toNat)
    case atStart => exact ⟨0, Nat.zero_le _, rfl, by simp [Hid], Chg.refl _ _⟩
    case round =>
      obtain ⟨k, hk, rfl, hpre, hch⟩ := hrel
      by_cases hlt : k < L
      · obtain rfl := i1 (by omega)
        obtain rfl := j1 (by omega)
        have hkl : k < l.length := by have := HLL.out; omega
        have hkr : k < r.length := by have := HN.out; have := HLL.out; omega
        have hb0 : b0 < w.heap.size := World.block_lt_of_cell? w _ (HI.out k hkl)
        have hb1 : b1 < w.heap.size := World.block_lt_of_cell? w _ (HJ.out k hkr)
        have hx : wr.cell? ⟨b0, o0 + k, none⟩ = some (.int .i64 l[k]) := (World.cell?_of_block (hch.out.block b0 hb0 (fun e => e))).trans (HI.out k hkl)
        have hy : wr.cell? ⟨b1, o1 + k, none⟩ = some (.int .i64 r[k]) := (World.cell?_of_block (hch.out.block b1 hb1 (fun e => e))).trans (HJ.out k hkr)
        have hs1 : Hid (l[k] = r[k] → l.take (k + 1) = r.take (k + 1)) := fun e => by rw [List.take_succ_eq_append_getElem hkl, List.take_succ_eq_append_getElem hkr, hpre.out, e]
        have hs2 : Hid (l[k] ≠ r[k] → decide (l = r) = false) := fun e => decide_eq_false fun e' => e (by subst e'; rfl)
        clear hb0 hb1
        generalize l[k] = x at *
        generalize r[k] = y at *
        by_cases hxy : x = y
        · have hd1 : (x == y) = true := by simp [hxy]
          have hd2 : (x != y) = false := by simp [hxy]
          have HS := Lib.hid (hs1.out hxy)
          clear hxy hs1 hs2
          go_wp2
          go_quiet (fail)
          go_wp2
          go_roundw
          case rel => exact ⟨k + 1, by omega, by go_num, HS, hch.out.drewN _⟩
          case measure => simp [intOf]; omega
        · have hd1 : (x == y) = false := by simp [hxy]
          have hd2 : (x != y) = true := by simp [hxy]
          have HS := Lib.hid (hs2.out hxy)
          clear hxy hs1 hs2
          go_wp2
          go_quiet (fail)
          go_wp2
          go_ret
          rw [HS.out]
          exact ⟨rfl, hch.out.drewN _⟩
      · have : k = L := by omega
        subst this
        have HE : Hid (decide (l = r) = true) := decide_eq_true (by
          have h1 := hpre.out
          have h2 := HLL.out
          rw [List.take_of_length_le (by omega), List.take_of_length_le (by have := HN.out; omega)] at h1
          exact h1)
        go_wp2
        go_ret
        rw [HE.out]
        exact ⟨rfl, hch.out⟩
  · have e : decide (l = r) = false := decide_eq_false fun e => hn (by rw [e])
    rw [e]
    have hz : (l.length : Int) ≠ (r.length : Int) := by omega
    clear h4 k4 e
    generalize l.length = n at *
    generalize r.length = m at *
    go_enter Try.func24, Try.ntmps24
    go_wp2
    go_ret
    exact ⟨rfl, Chg.refl _ _⟩
end Go.Proofs.Ytefiliomfiomfac
