/- heap's Text. -/
import Derived.Test.YtefiliomfiomfacRaw
import Derived.Test.YtefiliomfiomfacBits
import Derived.Lib.Strings
namespace Go.Proofs.Ytefiliomfiomfac
open Go.RowKit Go.Maps

def textF (T : List Th) (most : Nat) (id : Int) (s : List UInt8) : Int × Int × List Th :=
  if id < 0 ∨ 65535 < id then (0, 2, T) else if 32768 < s.length then (0, 17, T) else putF T most id.toNat (wordsF s)

theorem text_nil (id : Int) (s : ByteArray) (w : World) : Calls Try.prog 9 #[.pointer none, .int .i64 id, .string s] w fun e w' => e = .returned (.tuple #[.int .i64 0, .int .i64 1]) ∧ w' = w := by
  go_enter Try.func9, Try.ntmps9
  go_wp2
  go_ret2
  exact ⟨rfl, rfl⟩
theorem text_big (a : Addr) (id : Int) (s : ByteArray) (w : World) (h1 : ¬ id < 0) (h2 : ¬ 65535 < id) (h3 : 32768 < s.size) : Calls Try.prog 9 #[.pointer (some a), .int .i64 id, .string s] w fun e w' => e = .returned (.tuple #[.int .i64 0, .int .i64 17]) ∧ w' = w := by
  have d1 : decide (0 ≤ id) = true := decide_eq_true (by omega)
  have d2 : decide (id ≤ 65535) = true := decide_eq_true (by omega)
  have d3 : decide (32768 < (s.size : Int)) = true := decide_eq_true (by omega)
  have g3 : (32768 : Int) < (s.size : Int) := by omega
  clear h1 h2 h3
  go_enter Try.func9, Try.ntmps9
  go_wp2
  go_ret2
  exact ⟨rfl, rfl⟩
/-- What the call of make answers. -/
def Made (F : Nat → Prop) (p : Value) (T : List Th) (most N : Nat) (id : Int) (m : Nat) (R : Int × Int × List Th) (l : List Int) : Prop :=
  ∀ w v, HT w F p T most N → OI w v l → (∀ k, v.ownBlock = some k → ¬ F k) → Calls Try.prog 32 #[p, .int .i64 id, .int .i64 (m : Int), .int .i64 (m : Int), v] w (HPost w F p most N R)
theorem byte_in (t : List UInt8) (c : UInt8) (j : Nat) (hj : t.length = j) (h8 : j < 8) : bits .or .i64 (wordAt t) (wrap64 (wrap64 (c.toNat : Int) * 2 ^ (j * 8))) = wordAt (t ++ [c]) := by
  have := or_word t c (by omega)
  rw [hj, Nat.mul_comm 8 j] at this
  rw [← this]
  congr 1
  have hc := c.toNat_lt
  have e : wrap64 (c.toNat : Int) = (c.toNat : Int) := by unfold wrap64; omega
  rw [e]
  simp only [IntKind.wrap_i64]
  unfold wrap64
  omega
theorem OI.stored {w : World} {g n c : Nat} {l : List Int} (h : OI w (.slice (some ⟨g, 0, none⟩) n c) l) (j : Nat) (x : Int) : OI (w.setCell ⟨g, j, none⟩ (.int .i64 x)) (.slice (some ⟨g, 0, none⟩) n c) (l.set j x) := by
  have hn : n = l.length := by
    obtain ⟨a, d, e⟩ := h.shape
    injection e
  subst hn
  have := (World.ownsRow.stored h j (.int .i64 x)).1
  unfold OI
  rw [List.length_set, List.map_set]
  exact this
theorem HPost.of {w0 w w' : World} {F : Nat → Prop} {p : Value} {most N : Nat} {r : Int × Int × List Th} {e : Ending} {G : Nat → Prop} (h : HPost w F p most N r e w') (hc : Chg G w0 w) (hG : ∀ k, G k → w0.heap.size ≤ k) : HPost w0 F p most N r e w' := by
  obtain ⟨he, F', hT, hc', hF⟩ := h
  have h0 : Chg F w0 w := ⟨hc.os, hc.tape, hc.output, hc.size, fun i hi _ => hc.block i hi fun hg => by have := hG i hg; omega⟩
  refine ⟨he, F', hT, h0.trans hc' (fun k hk => .inl hk), fun k hk => ?_⟩
  rcases hF k hk with h | h
  · exact .inl h
  · exact .inr (Nat.le_trans hc.size h)
theorem madeCells_zero (n : Nat) : (madeCells #[Value.int .i64 0] n).toList = (List.replicate n (0 : Int)).map (Value.int .i64) := by
  rw [List.map_replicate]
  exact toList_madeCells_one _ _

set_option maxRecDepth 100000 in
set_option maxHeartbeats 2000000 in
theorem text_ok {w : World} {F : Nat → Prop} {ad : Addr} {T : List Th} {most N m : Nat} {R : Int × Int × List Th} (h : HT w F (.pointer (some ad)) T most N) (id : Int) (s : ByteArray) (h1 : 0 ≤ id ∧ id ≤ 65535) (hs : s.size ≤ 32768) (hm : m = 1 + (s.size + 7) / 8)
    (hc : Made F (.pointer (some ad)) T most N id m R (wordsF s.data.toList)) :
    Calls Try.prog 9 #[.pointer (some ad), .int .i64 id, .string s] w (HPost w F (.pointer (some ad)) most N R) := by
  obtain ⟨i0, hi, hz0, hz1, hz2⟩ := info_parts info2
  have d3 : decide (32768 < (s.size : Int)) = false := decide_eq_false (by omega)
  have d4 : decide ((s.size : Int) ≤ 32768) = true := decide_eq_true (by omega)
  have d1 : decide (0 ≤ id) = true := decide_eq_true h1.1
  have d2 : decide (id ≤ 65535) = true := decide_eq_true h1.2
  clear h1
  have hsl : (s.data.toList).length = s.size := (Lib.size_eq s).symm
  have HC := Lib.hid hc
  have H := Lib.hid h
  have HSL := Lib.hid hsl
  have HM := Lib.hid hm
  have hq1 : ((s.size : Int) + 8 - 1) / 8 + 1 = (m : Int) := by omega
  have HQ := Lib.hid hq1
  clear hc h hsl hm hq1
  go_enter Try.func9, Try.ntmps9
  go_wp2_with (at_make; refine wpList_make_full w rfl _ _ 37 rfl 0 2 i0 (.int .i64 0) 1 Try.underlying37 hi hz0 hz1 .i64 .i64 _ _ m rfl rfl ?hL1 ?hC1 (by have := HM.out; rw [hz2]; omega) (by have := HM.out; unfold maxLen; omega) (Nat.zero_le _) ?_)
  case hL1 => have := HQ.out; omega
  case hC1 => have := HQ.out; omega
  intro w1 ho hg
  rw [madeCells_zero] at ho
  have HO1 : Hid (w1.ownsRow 0 2 1 (.slice (some ⟨w.heap.size, 0, none⟩) m m) m ((List.replicate m (0 : Int)).map (Value.int .i64))) := ho
  have HC1 : Hid (Chg (fun k => w.heap.size ≤ k) w w1) := Chg.grown hg (fun _ e => by cases e)
  have hcell : w1.cell? ⟨w.heap.size, 0, none⟩ = some (.int .i64 0) := by
    have := World.ownsRow.cellAt ho 0 (by have := HM.out; omega)
    rw [this, List.getElem?_map, List.getElem?_replicate, if_pos (by have := HM.out; omega)]
    rfl
  have hfz : w1.frozen? ⟨w.heap.size, 0, none⟩ = false := World.ownsRow.frozenAt ho 0
  have hm0 : 0 < m := by have := HM.out; omega
  clear ho hg
  go_wp2
  have HO2 : Hid (OI (w1.setCell ⟨w.heap.size, 0, none⟩ (.int .i64 (s.size : Int))) (.slice (some ⟨w.heap.size, 0, none⟩) m m) (wordsTo s.data.toList (m - 1) 0)) := by
    show OI _ _ _
    have := (World.ownsRow.stored HO1.out 0 (.int .i64 (s.size : Int))).1
    unfold OI
    rw [len_wordsTo, wordsTo_zero, HSL.out, show m - 1 + 1 = m by omega]
    obtain ⟨m', rfl⟩ : ∃ m', m = m' + 1 := ⟨m - 1, by omega⟩
    simpa [List.replicate_succ] using this
  have HC2 : Hid (Chg (fun k => w.heap.size ≤ k) w (w1.setCell ⟨w.heap.size, 0, none⟩ (.int .i64 (s.size : Int)))) := HC1.out.set _ (Nat.le_refl _)
  clear hcell hfz HO1 HC1
  generalize w1.setCell ⟨w.heap.size, 0, none⟩ (.int .i64 (s.size : Int)) = w2 at *
  go_loopw [42] (fun i wr => ∃ k : Nat, k ≤ s.size ∧ i = .int .i64 k ∧ Hid (OI wr (.slice (some ⟨w.heap.size, 0, none⟩) m m) (wordsTo s.data.toList (m - 1) k)) ∧ Hid (Chg (fun k => w.heap.size ≤ k) w wr)) (fun i _ => s.size - (intOf i).toNat)
  case atStart => exact ⟨0, Nat.zero_le _, rfl, HO2, HC2⟩
  case round =>
    obtain ⟨k, hk, rfl, ho, hch⟩ := hrel
    by_cases hlt : k < s.size
    · have hkl : k < s.data.toList.length := by have := HSL.out; omega
      have hq8 : k / 8 < m - 1 := by have := HM.out; omega
      have hx : wr.cell? ⟨w.heap.size, k / 8 + 1, none⟩ = some (.int .i64 (wordAt (chunk (s.data.toList.take k) (k / 8)))) := by
        have := World.ownsRow.cellAt (cap := m) (n := m) (by have h := ho.out; unfold OI at h; rw [len_wordsTo, show m - 1 + 1 = m by omega] at h; exact h) (k / 8 + 1) (by omega)
        rw [this, List.getElem?_map, wordsTo_get _ _ _ _ hq8]
        rfl
      have hf : wr.frozen? ⟨w.heap.size, k / 8 + 1, none⟩ = false := World.ownsRow.frozenAt (cap := m) (n := m) (by have h := ho.out; unfold OI at h; rw [len_wordsTo, show m - 1 + 1 = m by omega] at h; exact h) (k / 8 + 1)
      obtain ⟨q, hq⟩ : ∃ q, k / 8 = q := ⟨_, rfl⟩
      rw [hq, Nat.add_comm q 1] at hx hf
      rw [hq] at hq8
      have e1 : (k : Int) / 8 = (q : Int) := by omega
      obtain ⟨j, hj⟩ : ∃ j, k % 8 = j := ⟨_, rfl⟩
      have e2 : (k : Int) % 8 = (j : Int) := by omega
      have hj8 : j < 8 := by omega
      have HST : Hid (OI (wr.setCell ⟨w.heap.size, 1 + q, none⟩ (.int .i64 (bits .or .i64 (wordAt (chunk (s.data.toList.take k) q)) (wrap64 (wrap64 ((s[k]'hlt).toNat : Int) * 2 ^ (j * 8)))))) (.slice (some ⟨w.heap.size, 0, none⟩) m m) (wordsTo s.data.toList (m - 1) (k + 1))) := by
        show OI _ _ _
        have hst := wordsTo_step s.data.toList (m - 1) k hkl (by omega)
        have hl := chunk_len s.data.toList k hkl
        have hb := byte_in (chunk (s.data.toList.take k) q) (s[k]'hlt) j (by rw [← hq, hl]; exact hj) hj8
        have hy : s.data.toList[k] = s[k]'hlt := by simp; rfl
        rw [hb, ← hst, hq, hy]
        exact OI.stored ho.out (1 + q) _
      have hck : Hid (Chg (fun k => w.heap.size ≤ k) w (wr.setCell ⟨w.heap.size, 1 + q, none⟩ (.int .i64 (bits .or .i64 (wordAt (chunk (s.data.toList.take k) q)) (wrap64 (wrap64 ((s[k]'hlt).toNat : Int) * 2 ^ (j * 8))))))) := hch.out.set _ (Nat.le_refl _)
      clear ho hch hq hj hkl
      generalize wordAt (chunk (s.data.toList.take k) q) = x at *
      go_wp2
      go_region
      generalize wr.setCell ⟨w.heap.size, 1 + q, none⟩ (.int .i64 (bits .or .i64 x (wrap64 (wrap64 ((s[k]'hlt).toNat : Int) * 2 ^ (j * 8))))) = w3 at *
      go_wp2
      go_roundw
      case rel => exact ⟨k + 1, by omega, by go_num, HST.out, hck.out.drew⟩
      case measure => simp [intOf]; omega
    · have : k = s.size := by omega
      subst this
      have HF : Hid (OI wr (.slice (some ⟨w.heap.size, 0, none⟩) m m) (wordsF s.data.toList)) := by
        have := ho.out
        unfold wordsF
        rw [HSL.out]
        have e : (s.size + 7) / 8 = m - 1 := by have := HM.out; omega
        rw [e]
        exact this
      have HCALL := Lib.hid (HC.out wr _ (H.out.chg hch.out (fun k hk e => by have := H.out.2.1 k hk; omega)) HF.out (fun k hk e => by have e1 := Option.some.inj hk; have := H.out.2.1 k e; have e2 : w.heap.size = k := e1; omega))
      clear ho
      go_wp2_with fail
      refine HCALL.out.mono ?_
      rintro e w4 h4
      have H4 := Lib.hid (h4.of hch.out (fun k hk => hk))
      obtain ⟨rfl, _⟩ := h4
      go_wp2
      go_ret2
      exact H4.out

set_option maxRecDepth 100000 in
set_option maxHeartbeats 2000000 in
theorem text_low {w : World} {F : Nat → Prop} {ad : Addr} {T : List Th} {most N m : Nat} {R : Int × Int × List Th} (h : HT w F (.pointer (some ad)) T most N) (id : Int) (s : ByteArray) (h1 : id < 0) (hs : s.size ≤ 32768) (hm : m = 1 + (s.size + 7) / 8)
    (hc : Made F (.pointer (some ad)) T most N id m R (wordsF s.data.toList)) :
    Calls Try.prog 9 #[.pointer (some ad), .int .i64 id, .string s] w (HPost w F (.pointer (some ad)) most N R) := by
  obtain ⟨i0, hi, hz0, hz1, hz2⟩ := info_parts info2
  have d3 : decide (32768 < (s.size : Int)) = false := decide_eq_false (by omega)
  have d4 : decide ((s.size : Int) ≤ 32768) = true := decide_eq_true (by omega)
  have d1 : decide (0 ≤ id) = false := decide_eq_false (by omega)
  clear h1
  have hsl : (s.data.toList).length = s.size := (Lib.size_eq s).symm
  have HC := Lib.hid hc
  have H := Lib.hid h
  have HSL := Lib.hid hsl
  have HM := Lib.hid hm
  have hq1 : ((s.size : Int) + 8 - 1) / 8 + 1 = (m : Int) := by omega
  have HQ := Lib.hid hq1
  clear hc h hsl hm hq1
  go_enter Try.func9, Try.ntmps9
  go_wp2_with (at_make; refine wpList_make_full w rfl _ _ 37 rfl 0 2 i0 (.int .i64 0) 1 Try.underlying37 hi hz0 hz1 .i64 .i64 _ _ m rfl rfl ?hL1 ?hC1 (by have := HM.out; rw [hz2]; omega) (by have := HM.out; unfold maxLen; omega) (Nat.zero_le _) ?_)
  case hL1 => have := HQ.out; omega
  case hC1 => have := HQ.out; omega
  intro w1 ho hg
  rw [madeCells_zero] at ho
  have HO1 : Hid (w1.ownsRow 0 2 1 (.slice (some ⟨w.heap.size, 0, none⟩) m m) m ((List.replicate m (0 : Int)).map (Value.int .i64))) := ho
  have HC1 : Hid (Chg (fun k => w.heap.size ≤ k) w w1) := Chg.grown hg (fun _ e => by cases e)
  have hcell : w1.cell? ⟨w.heap.size, 0, none⟩ = some (.int .i64 0) := by
    have := World.ownsRow.cellAt ho 0 (by have := HM.out; omega)
    rw [this, List.getElem?_map, List.getElem?_replicate, if_pos (by have := HM.out; omega)]
    rfl
  have hfz : w1.frozen? ⟨w.heap.size, 0, none⟩ = false := World.ownsRow.frozenAt ho 0
  have hm0 : 0 < m := by have := HM.out; omega
  clear ho hg
  go_wp2
  have HO2 : Hid (OI (w1.setCell ⟨w.heap.size, 0, none⟩ (.int .i64 (s.size : Int))) (.slice (some ⟨w.heap.size, 0, none⟩) m m) (wordsTo s.data.toList (m - 1) 0)) := by
    show OI _ _ _
    have := (World.ownsRow.stored HO1.out 0 (.int .i64 (s.size : Int))).1
    unfold OI
    rw [len_wordsTo, wordsTo_zero, HSL.out, show m - 1 + 1 = m by omega]
    obtain ⟨m', rfl⟩ : ∃ m', m = m' + 1 := ⟨m - 1, by omega⟩
    simpa [List.replicate_succ] using this
  have HC2 : Hid (Chg (fun k => w.heap.size ≤ k) w (w1.setCell ⟨w.heap.size, 0, none⟩ (.int .i64 (s.size : Int)))) := HC1.out.set _ (Nat.le_refl _)
  clear hcell hfz HO1 HC1
  generalize w1.setCell ⟨w.heap.size, 0, none⟩ (.int .i64 (s.size : Int)) = w2 at *
  go_loopw [42] (fun i wr => ∃ k : Nat, k ≤ s.size ∧ i = .int .i64 k ∧ Hid (OI wr (.slice (some ⟨w.heap.size, 0, none⟩) m m) (wordsTo s.data.toList (m - 1) k)) ∧ Hid (Chg (fun k => w.heap.size ≤ k) w wr)) (fun i _ => s.size - (intOf i).toNat)
  case atStart => exact ⟨0, Nat.zero_le _, rfl, HO2, HC2⟩
  case round =>
    obtain ⟨k, hk, rfl, ho, hch⟩ := hrel
    by_cases hlt : k < s.size
    · have hkl : k < s.data.toList.length := by have := HSL.out; omega
      have hq8 : k / 8 < m - 1 := by have := HM.out; omega
      have hx : wr.cell? ⟨w.heap.size, k / 8 + 1, none⟩ = some (.int .i64 (wordAt (chunk (s.data.toList.take k) (k / 8)))) := by
        have := World.ownsRow.cellAt (cap := m) (n := m) (by have h := ho.out; unfold OI at h; rw [len_wordsTo, show m - 1 + 1 = m by omega] at h; exact h) (k / 8 + 1) (by omega)
        rw [this, List.getElem?_map, wordsTo_get _ _ _ _ hq8]
        rfl
      have hf : wr.frozen? ⟨w.heap.size, k / 8 + 1, none⟩ = false := World.ownsRow.frozenAt (cap := m) (n := m) (by have h := ho.out; unfold OI at h; rw [len_wordsTo, show m - 1 + 1 = m by omega] at h; exact h) (k / 8 + 1)
      obtain ⟨q, hq⟩ : ∃ q, k / 8 = q := ⟨_, rfl⟩
      rw [hq, Nat.add_comm q 1] at hx hf
      rw [hq] at hq8
      have e1 : (k : Int) / 8 = (q : Int) := by omega
      obtain ⟨j, hj⟩ : ∃ j, k % 8 = j := ⟨_, rfl⟩
      have e2 : (k : Int) % 8 = (j : Int) := by omega
      have hj8 : j < 8 := by omega
      have HST : Hid (OI (wr.setCell ⟨w.heap.size, 1 + q, none⟩ (.int .i64 (bits .or .i64 (wordAt (chunk (s.data.toList.take k) q)) (wrap64 (wrap64 ((s[k]'hlt).toNat : Int) * 2 ^ (j * 8)))))) (.slice (some ⟨w.heap.size, 0, none⟩) m m) (wordsTo s.data.toList (m - 1) (k + 1))) := by
        show OI _ _ _
        have hst := wordsTo_step s.data.toList (m - 1) k hkl (by omega)
        have hl := chunk_len s.data.toList k hkl
        have hb := byte_in (chunk (s.data.toList.take k) q) (s[k]'hlt) j (by rw [← hq, hl]; exact hj) hj8
        have hy : s.data.toList[k] = s[k]'hlt := by simp; rfl
        rw [hb, ← hst, hq, hy]
        exact OI.stored ho.out (1 + q) _
      have hck : Hid (Chg (fun k => w.heap.size ≤ k) w (wr.setCell ⟨w.heap.size, 1 + q, none⟩ (.int .i64 (bits .or .i64 (wordAt (chunk (s.data.toList.take k) q)) (wrap64 (wrap64 ((s[k]'hlt).toNat : Int) * 2 ^ (j * 8))))))) := hch.out.set _ (Nat.le_refl _)
      clear ho hch hq hj hkl
      generalize wordAt (chunk (s.data.toList.take k) q) = x at *
      go_wp2
      go_region
      generalize wr.setCell ⟨w.heap.size, 1 + q, none⟩ (.int .i64 (bits .or .i64 x (wrap64 (wrap64 ((s[k]'hlt).toNat : Int) * 2 ^ (j * 8))))) = w3 at *
      go_wp2
      go_roundw
      case rel => exact ⟨k + 1, by omega, by go_num, HST.out, hck.out.drew⟩
      case measure => simp [intOf]; omega
    · have : k = s.size := by omega
      subst this
      have HF : Hid (OI wr (.slice (some ⟨w.heap.size, 0, none⟩) m m) (wordsF s.data.toList)) := by
        have := ho.out
        unfold wordsF
        rw [HSL.out]
        have e : (s.size + 7) / 8 = m - 1 := by have := HM.out; omega
        rw [e]
        exact this
      have HCALL := Lib.hid (HC.out wr _ (H.out.chg hch.out (fun k hk e => by have := H.out.2.1 k hk; omega)) HF.out (fun k hk e => by have e1 := Option.some.inj hk; have := H.out.2.1 k e; have e2 : w.heap.size = k := e1; omega))
      clear ho
      go_wp2_with fail
      refine HCALL.out.mono ?_
      rintro e w4 h4
      have H4 := Lib.hid (h4.of hch.out (fun k hk => hk))
      obtain ⟨rfl, _⟩ := h4
      go_wp2
      go_ret2
      exact H4.out

set_option maxRecDepth 100000 in
set_option maxHeartbeats 2000000 in
theorem text_high {w : World} {F : Nat → Prop} {ad : Addr} {T : List Th} {most N m : Nat} {R : Int × Int × List Th} (h : HT w F (.pointer (some ad)) T most N) (id : Int) (s : ByteArray) (h1 : 65535 < id) (hs : s.size ≤ 32768) (hm : m = 1 + (s.size + 7) / 8)
    (hc : Made F (.pointer (some ad)) T most N id m R (wordsF s.data.toList)) :
    Calls Try.prog 9 #[.pointer (some ad), .int .i64 id, .string s] w (HPost w F (.pointer (some ad)) most N R) := by
  obtain ⟨i0, hi, hz0, hz1, hz2⟩ := info_parts info2
  have d3 : decide (32768 < (s.size : Int)) = false := decide_eq_false (by omega)
  have d4 : decide ((s.size : Int) ≤ 32768) = true := decide_eq_true (by omega)
  have d1 : decide (0 ≤ id) = true := decide_eq_true (by omega)
  have d2 : decide (id ≤ 65535) = false := decide_eq_false (by omega)
  clear h1
  have hsl : (s.data.toList).length = s.size := (Lib.size_eq s).symm
  have HC := Lib.hid hc
  have H := Lib.hid h
  have HSL := Lib.hid hsl
  have HM := Lib.hid hm
  have hq1 : ((s.size : Int) + 8 - 1) / 8 + 1 = (m : Int) := by omega
  have HQ := Lib.hid hq1
  clear hc h hsl hm hq1
  go_enter Try.func9, Try.ntmps9
  go_wp2_with (at_make; refine wpList_make_full w rfl _ _ 37 rfl 0 2 i0 (.int .i64 0) 1 Try.underlying37 hi hz0 hz1 .i64 .i64 _ _ m rfl rfl ?hL1 ?hC1 (by have := HM.out; rw [hz2]; omega) (by have := HM.out; unfold maxLen; omega) (Nat.zero_le _) ?_)
  case hL1 => have := HQ.out; omega
  case hC1 => have := HQ.out; omega
  intro w1 ho hg
  rw [madeCells_zero] at ho
  have HO1 : Hid (w1.ownsRow 0 2 1 (.slice (some ⟨w.heap.size, 0, none⟩) m m) m ((List.replicate m (0 : Int)).map (Value.int .i64))) := ho
  have HC1 : Hid (Chg (fun k => w.heap.size ≤ k) w w1) := Chg.grown hg (fun _ e => by cases e)
  have hcell : w1.cell? ⟨w.heap.size, 0, none⟩ = some (.int .i64 0) := by
    have := World.ownsRow.cellAt ho 0 (by have := HM.out; omega)
    rw [this, List.getElem?_map, List.getElem?_replicate, if_pos (by have := HM.out; omega)]
    rfl
  have hfz : w1.frozen? ⟨w.heap.size, 0, none⟩ = false := World.ownsRow.frozenAt ho 0
  have hm0 : 0 < m := by have := HM.out; omega
  clear ho hg
  go_wp2
  have HO2 : Hid (OI (w1.setCell ⟨w.heap.size, 0, none⟩ (.int .i64 (s.size : Int))) (.slice (some ⟨w.heap.size, 0, none⟩) m m) (wordsTo s.data.toList (m - 1) 0)) := by
    show OI _ _ _
    have := (World.ownsRow.stored HO1.out 0 (.int .i64 (s.size : Int))).1
    unfold OI
    rw [len_wordsTo, wordsTo_zero, HSL.out, show m - 1 + 1 = m by omega]
    obtain ⟨m', rfl⟩ : ∃ m', m = m' + 1 := ⟨m - 1, by omega⟩
    simpa [List.replicate_succ] using this
  have HC2 : Hid (Chg (fun k => w.heap.size ≤ k) w (w1.setCell ⟨w.heap.size, 0, none⟩ (.int .i64 (s.size : Int)))) := HC1.out.set _ (Nat.le_refl _)
  clear hcell hfz HO1 HC1
  generalize w1.setCell ⟨w.heap.size, 0, none⟩ (.int .i64 (s.size : Int)) = w2 at *
  go_loopw [42] (fun i wr => ∃ k : Nat, k ≤ s.size ∧ i = .int .i64 k ∧ Hid (OI wr (.slice (some ⟨w.heap.size, 0, none⟩) m m) (wordsTo s.data.toList (m - 1) k)) ∧ Hid (Chg (fun k => w.heap.size ≤ k) w wr)) (fun i _ => s.size - (intOf i).toNat)
  case atStart => exact ⟨0, Nat.zero_le _, rfl, HO2, HC2⟩
  case round =>
    obtain ⟨k, hk, rfl, ho, hch⟩ := hrel
    by_cases hlt : k < s.size
    · have hkl : k < s.data.toList.length := by have := HSL.out; omega
      have hq8 : k / 8 < m - 1 := by have := HM.out; omega
      have hx : wr.cell? ⟨w.heap.size, k / 8 + 1, none⟩ = some (.int .i64 (wordAt (chunk (s.data.toList.take k) (k / 8)))) := by
        have := World.ownsRow.cellAt (cap := m) (n := m) (by have h := ho.out; unfold OI at h; rw [len_wordsTo, show m - 1 + 1 = m by omega] at h; exact h) (k / 8 + 1) (by omega)
        rw [this, List.getElem?_map, wordsTo_get _ _ _ _ hq8]
        rfl
      have hf : wr.frozen? ⟨w.heap.size, k / 8 + 1, none⟩ = false := World.ownsRow.frozenAt (cap := m) (n := m) (by have h := ho.out; unfold OI at h; rw [len_wordsTo, show m - 1 + 1 = m by omega] at h; exact h) (k / 8 + 1)
      obtain ⟨q, hq⟩ : ∃ q, k / 8 = q := ⟨_, rfl⟩
      rw [hq, Nat.add_comm q 1] at hx hf
      rw [hq] at hq8
      have e1 : (k : Int) / 8 = (q : Int) := by omega
      obtain ⟨j, hj⟩ : ∃ j, k % 8 = j := ⟨_, rfl⟩
      have e2 : (k : Int) % 8 = (j : Int) := by omega
      have hj8 : j < 8 := by omega
      have HST : Hid (OI (wr.setCell ⟨w.heap.size, 1 + q, none⟩ (.int .i64 (bits .or .i64 (wordAt (chunk (s.data.toList.take k) q)) (wrap64 (wrap64 ((s[k]'hlt).toNat : Int) * 2 ^ (j * 8)))))) (.slice (some ⟨w.heap.size, 0, none⟩) m m) (wordsTo s.data.toList (m - 1) (k + 1))) := by
        show OI _ _ _
        have hst := wordsTo_step s.data.toList (m - 1) k hkl (by omega)
        have hl := chunk_len s.data.toList k hkl
        have hb := byte_in (chunk (s.data.toList.take k) q) (s[k]'hlt) j (by rw [← hq, hl]; exact hj) hj8
        have hy : s.data.toList[k] = s[k]'hlt := by simp; rfl
        rw [hb, ← hst, hq, hy]
        exact OI.stored ho.out (1 + q) _
      have hck : Hid (Chg (fun k => w.heap.size ≤ k) w (wr.setCell ⟨w.heap.size, 1 + q, none⟩ (.int .i64 (bits .or .i64 (wordAt (chunk (s.data.toList.take k) q)) (wrap64 (wrap64 ((s[k]'hlt).toNat : Int) * 2 ^ (j * 8))))))) := hch.out.set _ (Nat.le_refl _)
      clear ho hch hq hj hkl
      generalize wordAt (chunk (s.data.toList.take k) q) = x at *
      go_wp2
      go_region
      generalize wr.setCell ⟨w.heap.size, 1 + q, none⟩ (.int .i64 (bits .or .i64 x (wrap64 (wrap64 ((s[k]'hlt).toNat : Int) * 2 ^ (j * 8))))) = w3 at *
      go_wp2
      go_roundw
      case rel => exact ⟨k + 1, by omega, by go_num, HST.out, hck.out.drew⟩
      case measure => simp [intOf]; omega
    · have : k = s.size := by omega
      subst this
      have HF : Hid (OI wr (.slice (some ⟨w.heap.size, 0, none⟩) m m) (wordsF s.data.toList)) := by
        have := ho.out
        unfold wordsF
        rw [HSL.out]
        have e : (s.size + 7) / 8 = m - 1 := by have := HM.out; omega
        rw [e]
        exact this
      have HCALL := Lib.hid (HC.out wr _ (H.out.chg hch.out (fun k hk e => by have := H.out.2.1 k hk; omega)) HF.out (fun k hk e => by have e1 := Option.some.inj hk; have := H.out.2.1 k e; have e2 : w.heap.size = k := e1; omega))
      clear ho
      go_wp2_with fail
      refine HCALL.out.mono ?_
      rintro e w4 h4
      have H4 := Lib.hid (h4.of hch.out (fun k hk => hk))
      obtain ⟨rfl, _⟩ := h4
      go_wp2
      go_ret2
      exact H4.out

set_option maxRecDepth 100000 in
set_option maxHeartbeats 2000000 in
theorem text_lowBig {w : World} {F : Nat → Prop} {ad : Addr} {T : List Th} {most N : Nat} {R : Int × Int × List Th} (h : HT w F (.pointer (some ad)) T most N) (id : Int) (s : ByteArray) (h1 : id < 0) (hs : 32768 < s.size)
    (hc : ∀ w v, HT w F (.pointer (some ad)) T most N → Calls Try.prog 32 #[.pointer (some ad), .int .i64 id, .int .i64 4097, .int .i64 4097, v] w (HPost w F (.pointer (some ad)) most N R)) :
    Calls Try.prog 9 #[.pointer (some ad), .int .i64 id, .string s] w (HPost w F (.pointer (some ad)) most N R) := by
  obtain ⟨i0, hi, hz0, hz1, hz2⟩ := info_parts info2
  have d3 : decide (32768 < (s.size : Int)) = true := decide_eq_true (by omega)
  have d4 : decide ((s.size : Int) ≤ 32768) = false := decide_eq_false (by omega)
  have d5 : ¬ ((s.size : Int) ≤ 32768) := by omega
  have d6 : (32768 : Int) < (s.size : Int) := by omega
  have d7 : (32768 : Int) ≤ (s.size : Int) := by omega
  have d8 : min (s.size : Int) 32768 = 32768 := by omega
  have d1 : decide (0 ≤ id) = false := decide_eq_false (by omega)
  clear h1
  have HC := Lib.hid hc
  have H := Lib.hid h
  clear hc h
  go_enter Try.func9, Try.ntmps9
  go_wp2_with (at_make; refine wpList_make_full w rfl _ _ 37 rfl 0 2 i0 (.int .i64 0) 1 Try.underlying37 hi hz0 hz1 .i64 .i64 _ _ 4097 rfl rfl ?hL1 ?hC1 (by rw [hz2]; omega) (by unfold maxLen; omega) (Nat.zero_le _) ?_)
  intro w1 ho hg
  have HC1 : Hid (Chg (fun k => w.heap.size ≤ k) w w1) := Chg.grown hg (fun _ e => by cases e)
  have hcell : w1.cell? ⟨w.heap.size, 0, none⟩ = some (.int .i64 0) := by
    rw [madeCells_zero] at ho
    have := World.ownsRow.cellAt ho 0 (by omega)
    rw [this]
    rfl
  have hfz : w1.frozen? ⟨w.heap.size, 0, none⟩ = false := World.ownsRow.frozenAt ho 0
  clear ho hg
  have HC2 : Hid (Chg (fun k => w.heap.size ≤ k) w (w1.setCell ⟨w.heap.size, 0, none⟩ (.int .i64 (s.size : Int)))) := HC1.out.set _ (Nat.le_refl _)
  have HCALL := Lib.hid (HC.out _ (.slice (some ⟨w.heap.size, 0, none⟩) 4097 4097) (H.out.chg HC2.out (fun k hk e => by have := H.out.2.1 k hk; omega)))
  go_wp2_with fail
  refine HCALL.out.mono ?_
  rintro e w4 h4
  have H4 := Lib.hid (h4.of HC2.out (fun k hk => hk))
  obtain ⟨rfl, _⟩ := h4
  go_wp2
  go_ret2
  exact H4.out

set_option maxRecDepth 100000 in
set_option maxHeartbeats 2000000 in
theorem text_highBig {w : World} {F : Nat → Prop} {ad : Addr} {T : List Th} {most N : Nat} {R : Int × Int × List Th} (h : HT w F (.pointer (some ad)) T most N) (id : Int) (s : ByteArray) (h1 : 65535 < id) (hs : 32768 < s.size)
    (hc : ∀ w v, HT w F (.pointer (some ad)) T most N → Calls Try.prog 32 #[.pointer (some ad), .int .i64 id, .int .i64 4097, .int .i64 4097, v] w (HPost w F (.pointer (some ad)) most N R)) :
    Calls Try.prog 9 #[.pointer (some ad), .int .i64 id, .string s] w (HPost w F (.pointer (some ad)) most N R) := by
  obtain ⟨i0, hi, hz0, hz1, hz2⟩ := info_parts info2
  have d3 : decide (32768 < (s.size : Int)) = true := decide_eq_true (by omega)
  have d4 : decide ((s.size : Int) ≤ 32768) = false := decide_eq_false (by omega)
  have d5 : ¬ ((s.size : Int) ≤ 32768) := by omega
  have d6 : (32768 : Int) < (s.size : Int) := by omega
  have d7 : (32768 : Int) ≤ (s.size : Int) := by omega
  have d8 : min (s.size : Int) 32768 = 32768 := by omega
  have d1 : decide (0 ≤ id) = true := decide_eq_true (by omega)
  have d2 : decide (id ≤ 65535) = false := decide_eq_false (by omega)
  clear h1
  have HC := Lib.hid hc
  have H := Lib.hid h
  clear hc h
  go_enter Try.func9, Try.ntmps9
  go_wp2_with (at_make; refine wpList_make_full w rfl _ _ 37 rfl 0 2 i0 (.int .i64 0) 1 Try.underlying37 hi hz0 hz1 .i64 .i64 _ _ 4097 rfl rfl ?hL1 ?hC1 (by rw [hz2]; omega) (by unfold maxLen; omega) (Nat.zero_le _) ?_)
  intro w1 ho hg
  have HC1 : Hid (Chg (fun k => w.heap.size ≤ k) w w1) := Chg.grown hg (fun _ e => by cases e)
  have hcell : w1.cell? ⟨w.heap.size, 0, none⟩ = some (.int .i64 0) := by
    rw [madeCells_zero] at ho
    have := World.ownsRow.cellAt ho 0 (by omega)
    rw [this]
    rfl
  have hfz : w1.frozen? ⟨w.heap.size, 0, none⟩ = false := World.ownsRow.frozenAt ho 0
  clear ho hg
  have HC2 : Hid (Chg (fun k => w.heap.size ≤ k) w (w1.setCell ⟨w.heap.size, 0, none⟩ (.int .i64 (s.size : Int)))) := HC1.out.set _ (Nat.le_refl _)
  have HCALL := Lib.hid (HC.out _ (.slice (some ⟨w.heap.size, 0, none⟩) 4097 4097) (H.out.chg HC2.out (fun k hk e => by have := H.out.2.1 k hk; omega)))
  go_wp2_with fail
  refine HCALL.out.mono ?_
  rintro e w4 h4
  have H4 := Lib.hid (h4.of HC2.out (fun k hk => hk))
  obtain ⟨rfl, _⟩ := h4
  go_wp2
  go_ret2
  exact H4.out

theorem made_bad (F : Nat → Prop) (p : Value) (T : List Th) (most N : Nat) (id : Int) (m : Nat) (l : List Int) (hb : id < 0 ∨ 65535 < id) : Made F p T most N id m (0, 2, T) l := fun w v h _ _ => make_badT h id m m v (by omega)
theorem len_wordsF (s : List UInt8) : (wordsF s).length = 1 + (s.length + 7) / 8 := by unfold wordsF; rw [len_wordsTo]; omega
theorem text9 {w : World} {F : Nat → Prop} {p : Value} {T : List Th} {most N : Nat} (h : HT w F p T most N) (id : Int) (s : ByteArray) (hN : N ≤ 1048576) :
    Calls Try.prog 9 #[p, .int .i64 id, .string s] w (HPost w F p most N (textF T most id s.data.toList)) := by
  obtain ⟨ad, rfl⟩ := h.p
  have hsl : (s.data.toList).length = s.size := (Lib.size_eq s).symm
  unfold textF
  rw [hsl]
  by_cases hb : id < 0 ∨ 65535 < id
  · rw [if_pos hb]
    by_cases hs : s.size ≤ 32768
    · by_cases h0 : id < 0
      · exact text_low h id s h0 hs rfl (made_bad _ _ _ _ _ _ _ _ hb)
      · exact text_high h id s (by omega) hs rfl (made_bad _ _ _ _ _ _ _ _ hb)
    · have hc : ∀ w v, HT w F (.pointer (some ad)) T most N → Calls Try.prog 32 #[.pointer (some ad), .int .i64 id, .int .i64 4097, .int .i64 4097, v] w (HPost w F (.pointer (some ad)) most N (0, 2, T)) := fun w v h => make_badT h id 4097 4097 v (by omega)
      by_cases h0 : id < 0
      · exact text_lowBig h id s h0 (by omega) hc
      · exact text_highBig h id s (by omega) (by omega) hc
  · rw [if_neg hb]
    by_cases hs : 32768 < s.size
    · rw [if_pos hs]
      refine (text_big ad id s w (by omega) (by omega) hs).mono ?_
      rintro e w' ⟨rfl, rfl⟩
      exact ⟨rfl, F, h.mono, Chg.refl _ _, fun k hk => .inl hk⟩
    · rw [if_neg hs]
      obtain ⟨i, rfl⟩ : ∃ i : Nat, id = (i : Int) := ⟨id.toNat, by omega⟩
      refine text_ok h i s (by omega) (by omega) rfl ?_
      intro w1 v h1 ho hv
      have hw := len_wordsF s.data.toList
      rw [hsl] at hw
      have := makeT h1 i (1 + (s.size + 7) / 8) (((1 + (s.size + 7) / 8 : Nat) : Int)) v (wordsF s.data.toList) (by omega) (Int.le_refl _) (by omega) ho.ri (by omega) hv hN
      rw [hw, Nat.sub_self] at this
      simpa using this
end Go.Proofs.Ytefiliomfiomfac
