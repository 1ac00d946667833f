/- heap's Bytes over all; the law's fixed calls. -/
import Derived.Test.YtefiliomfiomfacBytes
namespace Go.Proofs.Ytefiliomfiomfac
open Go.RowKit Go.Maps

theorem bytes10 {w : World} {F : Nat → Prop} {p : Value} {T : List Th} {most N : Nat} (h : HT w F p T most N) (a : Int) (ha : (Lit.int .i64 a).wf = true) :
    Calls Try.prog 10 #[p, .int .i64 a] w fun e w' => e = .returned (bytesV (bytesF T a)) ∧ Chg (fun _ => False) w w' := by
  unfold bytesF
  cases hw : words T a with
  | none =>
    refine (bytes10_none h a ha 3 (by unfold lenF; rw [hw]) (by decide)).mono ?_
    rintro e w' ⟨rfl, rfl⟩
    exact ⟨rfl, Chg.refl _ _⟩
  | some l =>
    cases l with
    | nil =>
      refine (bytes10_none h a ha 5 (by unfold lenF; rw [hw]) (by decide)).mono ?_
      rintro e w' ⟨rfl, rfl⟩
      exact ⟨rfl, Chg.refl _ _⟩
    | cons n r =>
      unfold bytesL
      simp only
      by_cases hbad : n < 0 ∨ 8 * ((r.length : Int) + 1) < n ∨ (n + 7) / 8 ≠ (r.length : Int)
      · rw [if_pos hbad]
        refine (bytes10_form h a ha n r hw hbad).mono ?_
        rintro e w' ⟨rfl, rfl⟩
        exact ⟨rfl, Chg.refl _ _⟩
      · rw [if_neg hbad]
        obtain ⟨m, rfl⟩ : ∃ m : Nat, n = (m : Int) := ⟨n.toNat, by omega⟩
        exact bytes10_ok h a ha m r hw (by omega) (by omega)
theorem new7 (n : Nat) (w : World) (h1 : 16 ≤ n) (h2 : n ≤ 4096) : Calls Try.prog 7 #[.int .i64 n] w fun e w' => ∃ ad F, e = .returned (.tuple #[.pointer (some ad), .int .i64 0]) ∧ HT w' F (.pointer (some ad)) [] n 0 ∧ (∀ k, F k → w.heap.size ≤ k) ∧ Below w.heap.size w w' := by
  refine (new_ok n w h1 h2).mono ?_
  rintro e w' ⟨hb, mb, ms, rfl, b1, b2, b3, hin, hbl⟩
  refine ⟨⟨hb, 0, none⟩, fun k => w.heap.size ≤ k ∧ k < w'.heap.size, rfl, ⟨⟨h2, Nat.zero_le _, fun t ht => by cases ht⟩, fun k hk => hk.2, hb, mb, ms, _, 0, 0, rfl, ?_, ⟨b1, (Array.getElem?_eq_some_iff.1 hin.cells).1⟩, ⟨b2, hin.begin_.lt⟩, ⟨b3, hin.sent.lt⟩, (fun g (hg : (Value.slice none 0 0).ownBlock = some g) => by cases hg), Nat.le_refl _, Nat.le_refl _⟩, fun k hk => hk.1, hbl⟩
  exact hin
theorem text_known : textF [⟨2, [0], 0⟩] 16 3 [104, 105] = (3, 0, [⟨2, [0], 0⟩, ⟨3, [2, 26984], 0⟩]) := by
  have e : wordsF [104, 105] = [2, 26984] := by
    unfold wordsF wordsTo
    simp only [List.length_cons, List.length_nil]
    show (2 : Int) :: [wordAt [104, 105]] = _
    congr 1
  unfold textF
  rw [if_neg (by omega), if_neg (by simp), e]
  rfl
theorem bytes_known : bytesF [⟨2, [0], 0⟩, ⟨3, [2, 26984], 0⟩] 3 = ([104, 105], 0) := by decide +kernel

set_option maxRecDepth 100000 in
set_option maxHeartbeats 2000000 in
theorem known8 (w : World) : Calls Try.prog 8 #[] w fun e w' => e = .returned (.bool true) ∧ Below w.heap.size w w' := by
  go_enter Try.func8, Try.ntmps8
  go_wp2_with fail
  refine (new7 16 w (by omega) (by omega)).mono ?_
  rintro e w1 ⟨ad, F1, rfl, h1, hF1, hb1⟩
  have H1 := Lib.hid h1
  have HF1 := Lib.hid hF1
  have HB1 := Lib.hid hb1
  clear h1 hF1 hb1
  go_wp2_with fail
  refine (thing13 H1.out 2 1 (by omega)).mono ?_
  rintro e w2 ⟨rfl, F2, h2, hc2, hF2⟩
  have H2 : Hid (HT w2 F2 (.pointer (some ad)) [⟨2, [0], 0⟩] 16 1) := h2
  have HF2 : Hid (∀ k, F2 k → w.heap.size ≤ k) := fun k hk => (hF2 k hk).elim (HF1.out k) (fun h => by have := HB1.out.size; omega)
  have HB2 : Hid (Below w.heap.size w w2) := HB1.out.trans (hc2.below HB1.out.size HF1.out)
  have e1 : thingF [] 16 2 1 = (1, 0, [⟨2, [0], 0⟩]) := rfl
  rw [e1]
  clear h2 hc2 hF2 e1
  go_wp2_with fail
  refine (text9 H2.out 3 _ (by omega)).mono ?_
  rintro e w3 ⟨rfl, F3, h3, hc3, hF3⟩
  have et : textF [⟨2, [0], 0⟩] 16 3 (({ data := #[104, 105] } : ByteArray).data.toList) = (3, 0, [⟨2, [0], 0⟩, ⟨3, [2, 26984], 0⟩]) := text_known
  rw [et] at h3 ⊢
  have H3 := Lib.hid h3
  have HB3 : Hid (Below w.heap.size w w3) := HB2.out.trans (hc3.below HB2.out.size HF2.out)
  clear h3 hc3 hF3 et
  go_wp2_with fail
  refine (bytes10 H3.out 3 (by decide)).mono ?_
  rintro e w4 ⟨rfl, hc4⟩
  have H4 := Lib.hid (H3.out.chg hc4 (fun _ _ e => e))
  have HB4 : Hid (Below w.heap.size w w4) := HB3.out.trans (hc4.below HB3.out.size (fun _ e => e.elim))
  have eb : bytesV (bytesF [⟨2, [0], 0⟩, ⟨3, [2, 26984], 0⟩] 3) = .tuple #[.string { data := #[104, 105] }, .int .i64 0] := by rw [bytes_known]; rfl
  rw [eb]
  clear hc4 eb
  go_wp2_with fail
  refine (used12 H4.out).mono ?_
  rintro e w5 ⟨rfl, rfl⟩
  have eu : (used [⟨2, [0], 0⟩, ⟨3, [2, 26984], 0⟩] : Nat) = 5 := rfl
  rw [eu]
  go_wp2_with fail
  refine (raw25 H4.out).mono ?_
  rintro e w6 ⟨v6, rfl, ho6, hc6, hv6⟩
  have er : raw [⟨2, [0], 0⟩, ⟨3, [2, 26984], 0⟩] = [131073, 0, 196610, 2, 26984] := rfl
  rw [er] at ho6
  have HO6 := Lib.hid ho6
  have HB6 : Hid (Below w.heap.size w w6) := HB4.out.trans (hc6.below HB4.out.size (fun _ e => e.elim))
  clear ho6 hc6 hv6 er eu
  have HR7 : Hid (RI (w6.alloc (.cells #[.int .i64 131073, .int .i64 0, .int .i64 196610, .int .i64 2, .int .i64 26984] 2)) (.slice (some ⟨w6.heap.size, 0, none⟩) 5 5) [131073, 0, 196610, 2, 26984]) := by
    refine ⟨_, 5, rfl, Nat.le_refl _, (fun h => by cases h), fun _ => ⟨w6.heap.size, 0, rfl, by simp, ?_⟩⟩
    intro i hi
    rw [World.cell?_alloc_mark]
    have hi5 : i < 5 := hi
    have : i = 0 ∨ i = 1 ∨ i = 2 ∨ i = 3 ∨ i = 4 := by omega
    rcases this with rfl | rfl | rfl | rfl | rfl <;> rfl
  go_wp2_with fail
  refine (same24 _ _ _ _ _ (HO6.out.al _).ri HR7.out (by decide)).mono ?_
  rintro e w8 ⟨rfl, hc8⟩
  have HB8 : Hid (Below w.heap.size w w8) := (HB6.out.alloc HB6.out.size _).trans (hc8.below (by have := HB6.out.size; simp; omega) (fun _ e => e.elim))
  clear hc8
  go_wp2
  go_ret
  exact ⟨rfl, HB8.out⟩
end Go.Proofs.Ytefiliomfiomfac
