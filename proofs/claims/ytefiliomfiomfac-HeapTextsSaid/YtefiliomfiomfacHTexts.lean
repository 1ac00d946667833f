/- HeapTexts' walk. -/
import Derived.Test.YtefiliomfiomfacKnown
namespace Go.Proofs.Ytefiliomfiomfac
open Go.RowKit Go.Maps

theorem wordsF_cons (s : List UInt8) : ∃ r, wordsF s = (s.length : Int) :: r ∧ r.length = (s.length + 7) / 8 := by
  unfold wordsF wordsTo
  exact ⟨_, rfl, by simp⟩
theorem bytesL_words (s : List UInt8) : bytesL (wordsF s) = (s, 0) := by
  obtain ⟨r, e, hr⟩ := wordsF_cons s
  rw [e]
  unfold bytesL
  simp only
  rw [if_neg (by omega), Int.toNat_natCast]
  congr 1
  unfold bytesOf
  apply List.ext_getElem
  · simp
  · intro i h1 h2
    have h2' : i < s.length := h2
    rw [List.getElem_map, List.getElem_range]
    unfold byteOf
    have hq : i / 8 < r.length := by omega
    rw [List.getD_eq_getElem?_getD, List.getElem?_eq_getElem hq]
    have hb := byte_back s i h2' r[i / 8] (by rw [e, Nat.add_comm, List.getElem?_cons_succ, List.getElem?_eq_getElem hq])
    rw [IntKind.wrap_u8', Int.fdiv_eq_ediv_of_nonneg _ (by have := Int.pow_pos (n := 2) (m := 8 * (i % 8)) (by decide); omega), Nat.mul_comm 8] at hb
    show UInt8.ofNat (r[i / 8] / 2 ^ (i % 8 * 8) % 256).toNat = s[i]
    rw [hb, Int.toNat_natCast]
    exact UInt8.ofNat_toNat

set_option maxHeartbeats 2000000 in
theorem texts_skip (id : Int) (s : ByteArray) (n : Int) (w : World) (h : (n < 16 ∨ 4096 < n) ∨ 16 ≤ n ∧ n ≤ 4096 ∧ 70000 < s.size) : Calls Try.prog 3 #[.int .i64 id, .string s, .int .i64 n] w fun e w' => e = .returned (.bool true) ∧ Below w.heap.size w w' := by
  by_cases hb : n < 16 ∨ 4096 < n
  · clear h
    have HN := Lib.hid (new_bad n w hb)
    clear hb
    go_enter Try.func3, Try.ntmps3
    go_wp2_with fail
    refine HN.out.mono ?_
    rintro e w1 ⟨rfl, rfl⟩
    go_wp2_with fail
    refine (known8 _).mono ?_
    rintro e w2 ⟨rfl, hb⟩
    have HB := Lib.hid hb
    clear hb
    go_wp2
    go_ret
    exact ⟨rfl, HB.out⟩
  · have hbig : (70000 : Int) < (s.size : Int) := by omega
    obtain ⟨m, rfl⟩ : ∃ m : Nat, n = (m : Int) := ⟨n.toNat, by omega⟩
    have HN := Lib.hid (new7 m w (by omega) (by omega))
    clear h hb
    go_enter Try.func3, Try.ntmps3
    go_wp2_with fail
    refine HN.out.mono ?_
    rintro e w1 ⟨ad, F, rfl, _, _, hb1⟩
    have HB1 := Lib.hid hb1
    clear hb1
    go_wp2_with fail
    refine (known8 _).mono ?_
    rintro e w2 ⟨rfl, hb⟩
    have HB : Hid (Below w.heap.size w w2) := HB1.out.trans (hb.mono HB1.out.size)
    clear hb
    go_wp2
    go_ret
    exact ⟨rfl, HB.out⟩

set_option maxRecDepth 100000 in
set_option maxHeartbeats 2000000 in
theorem texts_bad (id : Int) (s : ByteArray) (m : Nat) (x : Int) (w : World) (h1 : 16 ≤ m) (h2 : m ≤ 4096) (hs : s.size ≤ 70000) (ht : textF [] m id s.data.toList = (0, x, []))
    (hx : x = 2 ∧ (id < 0 ∨ 65535 < id) ∨ x = 17 ∧ m < 2 + (s.size + 7) / 8) : Calls Try.prog 3 #[.int .i64 id, .string s, .int .i64 (m : Int)] w fun e w' => e = .returned (.bool true) ∧ Below w.heap.size w w' := by
  have HN := Lib.hid (new7 m w h1 h2)
  have HT := Lib.hid ht
  have hs' : ¬ (70000 : Int) < (s.size : Int) := by omega
  rcases hx with ⟨rfl, hid⟩ | ⟨rfl, hf⟩
  · have hid2 : (decide (id < 0) || decide (65535 < id)) = true := by simp only [Bool.or_eq_true, decide_eq_true_eq]; exact hid
    clear ht hid h1 h2
    go_enter Try.func3, Try.ntmps3
    go_wp2_with fail
    refine HN.out.mono ?_
    rintro e w1 ⟨ad, F, rfl, h, hF, hb1⟩
    have HB1 := Lib.hid hb1
    have HF := Lib.hid hF
    have H := Lib.hid h
    clear hb1 hF h
    go_wp2_with fail
    refine (text9 H.out id s (by omega)).mono ?_
    rintro e w2 ⟨rfl, F2, _, hc2, _⟩
    have HB2 : Hid (Below w.heap.size w w2) := HB1.out.trans (hc2.below HB1.out.size HF.out)
    rw [HT.out]
    clear hc2
    go_wp2_with fail
    all_goals (
      refine (known8 _).mono ?_
      rintro e w3 ⟨rfl, hb⟩
      have HB : Hid (Below w.heap.size w w3) := HB2.out.trans (hb.mono HB2.out.size)
      clear hb
      go_wp2
      go_ret
      exact ⟨rfl, HB.out⟩)
  · have hf2 : (m : Int) < 2 + ((s.size : Int) + 7) / 8 := by omega
    clear ht hf h1 h2
    go_enter Try.func3, Try.ntmps3
    go_wp2_with fail
    refine HN.out.mono ?_
    rintro e w1 ⟨ad, F, rfl, h, hF, hb1⟩
    have HB1 := Lib.hid hb1
    have HF := Lib.hid hF
    have H := Lib.hid h
    clear hb1 hF h
    go_wp2_with fail
    refine (text9 H.out id s (by omega)).mono ?_
    rintro e w2 ⟨rfl, F2, _, hc2, _⟩
    have HB2 : Hid (Below w.heap.size w w2) := HB1.out.trans (hc2.below HB1.out.size HF.out)
    rw [HT.out]
    clear hc2
    go_wp2_with fail
    refine (known8 _).mono ?_
    rintro e w3 ⟨rfl, hb⟩
    have HB : Hid (Below w.heap.size w w3) := HB2.out.trans (hb.mono HB2.out.size)
    clear hb
    go_wp2
    go_ret
    exact ⟨rfl, HB.out⟩
set_option maxRecDepth 100000 in
set_option maxHeartbeats 2000000 in
theorem texts_good (id : Nat) (s : ByteArray) (m : Nat) (w : World) (h1 : 16 ≤ m) (h2 : m ≤ 4096) (hs : s.size ≤ 32768) (ht : textF [] m id s.data.toList = (1, 0, [⟨id, wordsF s.data.toList, 0⟩])) : Calls Try.prog 3 #[.int .i64 (id : Int), .string s, .int .i64 (m : Int)] w fun e w' => e = .returned (.bool true) ∧ Below w.heap.size w w' := by
  have HN := Lib.hid (new7 m w h1 h2)
  have HT := Lib.hid ht
  have hs' : ¬ (70000 : Int) < (s.size : Int) := by omega
  have hsl : (s.data.toList).length = s.size := (Lib.size_eq s).symm
  obtain ⟨r, er, hr⟩ := wordsF_cons s.data.toList
  rw [hsl] at er hr
  have hw : words [⟨id, wordsF s.data.toList, 0⟩] 1 = some (wordsF s.data.toList) := by rfl
  have hb : Hid (bytesV (bytesF [⟨id, wordsF s.data.toList, 0⟩] 1) = .tuple #[.string s, .int .i64 0]) := by
    show _ = _
    unfold bytesF
    rw [hw]
    simp only
    rw [bytesL_words]
    rfl
  have hl : Hid (two (lenF [⟨id, wordsF s.data.toList, 0⟩] 1) = .tuple #[.int .i64 (s.size : Int), .int .i64 0]) := by
    show _ = _
    unfold lenF
    rw [hw, er]
    rfl
  have hu : Hid (((used [⟨id, wordsF s.data.toList, 0⟩] : Nat) : Int) = 2 + ((s.size : Int) + 7) / 8) := by
    show _ = _
    rw [usedT_cons, usedT_nil, er, List.length_cons, hr]
    omega
  clear ht h1 h2 hs er hr hw hsl
  go_enter Try.func3, Try.ntmps3
  go_wp2_with fail
  refine HN.out.mono ?_
  rintro e w1 ⟨ad, F, rfl, h, hF, hb1⟩
  have HB1 := Lib.hid hb1
  have HF := Lib.hid hF
  have H := Lib.hid h
  clear hb1 hF h
  go_wp2_with fail
  refine (text9 H.out id s (by omega)).mono ?_
  rintro e w2 ⟨rfl, F2, h2, hc2, hF2⟩
  have HB2 : Hid (Below w.heap.size w w2) := HB1.out.trans (hc2.below HB1.out.size HF.out)
  rw [HT.out] at h2 ⊢
  have H2 := Lib.hid h2
  clear hc2 h2 hF2
  go_wp2_with fail
  refine (bytes10 H2.out 1 (by decide)).mono ?_
  rintro e w3 ⟨rfl, hc3⟩
  have HB3 : Hid (Below w.heap.size w w3) := HB2.out.trans (hc3.below HB2.out.size (fun _ e => e.elim))
  have H3 := Lib.hid (H2.out.chg hc3 (fun _ _ e => e))
  rw [hb.out]
  clear hc3
  go_wp2_with fail
  refine (len11 H3.out 1 (by decide)).mono ?_
  rintro e w4 ⟨rfl, rfl⟩
  rw [hl.out]
  go_wp2_with fail
  refine (used12 H3.out).mono ?_
  rintro e w5 ⟨rfl, rfl⟩
  rw [hu.out]
  go_wp2_with fail
  refine (known8 _).mono ?_
  rintro e w6 ⟨rfl, hb⟩
  have HB : Hid (Below w.heap.size w w6) := HB3.out.trans (hb.mono HB3.out.size)
  clear hb
  go_wp2
  go_ret
  exact ⟨rfl, HB.out⟩
theorem texts_row (id : Int) (s : ByteArray) (n : Int) (w : World) (_ : (Lit.int .i64 id).wf = true) (_ : s.size ≤ 140737488351232) (_ : (Lit.int .i64 n).wf = true) : Calls Try.prog 3 #[.int .i64 id, .string s, .int .i64 n] w fun e w' => e = .returned (.bool true) ∧ Below w.heap.size w w' := by
  by_cases h : (n < 16 ∨ 4096 < n) ∨ 16 ≤ n ∧ n ≤ 4096 ∧ 70000 < s.size
  · exact texts_skip id s n w h
  obtain ⟨m, rfl⟩ : ∃ m : Nat, n = (m : Int) := ⟨n.toNat, by omega⟩
  have hsl : (s.data.toList).length = s.size := (Lib.size_eq s).symm
  have hwl := len_wordsF s.data.toList
  rw [hsl] at hwl
  by_cases hid : id < 0 ∨ 65535 < id
  · exact texts_bad id s m 2 w (by omega) (by omega) (by omega) (by unfold textF; rw [if_pos hid]) (.inl ⟨rfl, hid⟩)
  by_cases hbig : 32768 < s.size
  · exact texts_bad id s m 17 w (by omega) (by omega) (by omega) (by unfold textF; rw [if_neg hid, hsl, if_pos hbig]) (.inr ⟨rfl, by omega⟩)
  obtain ⟨i, rfl⟩ : ∃ i : Nat, id = (i : Int) := ⟨id.toNat, by omega⟩
  by_cases hf : m < 0 + ((wordsF s.data.toList).length + 1)
  · exact texts_bad i s m 17 w (by omega) (by omega) (by omega) (by unfold textF putF; rw [if_neg hid, hsl, if_neg hbig, usedT_nil, if_pos hf]) (.inr ⟨rfl, by omega⟩)
  · exact texts_good i s m w (by omega) (by omega) (by omega) (by unfold textF putF; rw [if_neg hid, hsl, if_neg hbig, usedT_nil, if_neg hf]; rfl)
end Go.Proofs.Ytefiliomfiomfac
