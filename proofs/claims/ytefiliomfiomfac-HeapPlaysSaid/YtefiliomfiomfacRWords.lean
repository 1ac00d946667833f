/- The reference's Words. -/
import Derived.Test.YtefiliomfiomfacRWordsP
import Derived.Test.YtefiliomfiomfacText
namespace Go.Proofs.Ytefiliomfiomfac
open Go.RowKit PHeapPlays Go.Proofs.YtefiliomfiomfacW.PrintWords Go.Proofs.YtefiliomfiomfacW.PrintMore

theorem shl_eq (x : Int) (j : Nat) (h : j < 8) : shl .i64 x (IntKind.u64.wrap (wrap64 (8 * (j : Int)))) = wrap64 (x * 2 ^ (j * 8)) := by
  have e : IntKind.u64.wrap (wrap64 (8 * (j : Int))) = ((j * 8 : Nat) : Int) := by
    rw [show wrap64 (8 * (j : Int)) = 8 * (j : Int) from by unfold wrap64; omega]
    rw [IntKind.wrap_u64]
    omega
  unfold shl
  rw [e, Int.toNat_natCast, Nat.min_eq_left (by simp [IntKind.bits]; omega), IntKind.wrap_i64]
  unfold wrap64
  rfl
theorem bt_eq (s : ByteArray) (i : Nat) (h : i < s.size) (h' : i < s.data.toList.length) : bt s (i : Int) = ((s.data.toList[i]).toNat : Int) := by
  unfold bt
  rw [dif_pos (show (i : Int).toNat < s.size from by simpa using h)]
  rfl
theorem set_words (s : ByteArray) (hs : s.size ≤ 32768) (i : Nat) (h : i < s.size) (hl : i < s.data.toList.length) (Y : List Int) (hY : Y = wordsTo s.data.toList (i / 8 + 1) i) :
    Y.set (wrap64 ((Y.length : Int) - 1)).toNat (Go.bits .or .i64 (rd Y (wrap64 ((Y.length : Int) - 1))) (shl .i64 (wrap64 (bt s (i : Int))) (IntKind.u64.wrap (wrap64 (8 * (Int.tmod (i : Int) 8)))))) = wordsTo s.data.toList ((i + 1 + 7) / 8) (i + 1) ∧
    0 ≤ wrap64 ((Y.length : Int) - 1) ∧ wrap64 ((Y.length : Int) - 1) < (Y.length : Int) ∧ 0 ≤ (IntKind.u64.wrap (wrap64 (8 * (Int.tmod (i : Int) 8)))) := by
  have hlen : Y.length = i / 8 + 2 := by rw [hY, len_wordsTo]
  have hw : wrap64 ((Y.length : Int) - 1) = ((1 + i / 8 : Nat) : Int) := by rw [hlen]; unfold wrap64; omega
  have hm : Int.tmod (i : Int) 8 = ((i % 8 : Nat) : Int) := rfl
  have hr : rd Y ((1 + i / 8 : Nat) : Int) = wordAt (chunk (s.data.toList.take i) (i / 8)) := by
    unfold rd
    rw [Int.toNat_natCast, List.getD_eq_getElem?_getD, hY, Nat.add_comm 1, wordsTo_get s.data.toList (i / 8 + 1) i (i / 8) (by omega)]
    rfl
  rw [hw, hm, shl_eq _ (i % 8) (by omega), hr, bt_eq s i h hl, byte_in _ _ (i % 8) (chunk_len _ _ hl) (by omega), Int.toNat_natCast, hY]
  refine ⟨?_, by omega, by rw [← hY, hlen]; omega, ?_⟩
  · rw [wordsTo_step s.data.toList (i / 8 + 1) i hl (by omega)]
    congr 1
    omega
  · rw [show wrap64 (8 * ((i % 8 : Nat) : Int)) = 8 * ((i % 8 : Nat) : Int) from by unfold wrap64; omega, IntKind.wrap_u64]
    omega
theorem push_words (s : List UInt8) (m i : Nat) (h : i ≤ 8 * m) : wordsTo s m i ++ [0] = wordsTo s (m + 1) i := by
  unfold wordsTo
  rw [List.range_succ, List.map_append, List.cons_append]
  congr 2
  have : chunk (s.take i) m = [] := by
    unfold chunk
    rw [List.drop_of_length_le (by rw [List.length_take]; omega)]
    rfl
  show [0] = [wordAt (chunk (s.take i) m)]
  rw [this]
  rfl
theorem words_l0 (s : ByteArray) (hs : s.size ≤ 32768) : ∀ (d i k : Nat), i + d = s.size → d < k → hornbookref12_Words.l0 k s (wordsTo s.data.toList ((i + 7) / 8) i) i = some (wordsF s.data.toList) := by
  have hsl : (s.data.toList).length = s.size := (Lib.size_eq s).symm
  intro d
  induction d with
  | zero =>
    intro i k hi hk
    obtain ⟨k, rfl⟩ : ∃ m, k = m + 1 := ⟨k - 1, by omega⟩
    simp only [hornbookref12_Words.l0]
    rw [if_neg (by omega)]
    have : i = s.data.toList.length := by omega
    rw [this]
    rfl
  | succ d ih =>
    intro i k hi hk
    obtain ⟨k, rfl⟩ : ∃ m, k = m + 1 := ⟨k - 1, by omega⟩
    have hlt : i < s.size := by omega
    have hm : Int.tmod (i : Int) 8 = ((i % 8 : Nat) : Int) := rfl
    have hi1 : wrap64 ((i : Int) + 1) = ((i + 1 : Nat) : Int) := by unfold wrap64; omega
    have hnext := ih (i + 1) k (by omega) (by omega)
    simp only [hornbookref12_Words.l0]
    rw [if_pos (by omega)]
    by_cases h8 : i % 8 = 0
    · have hY : wordsTo s.data.toList ((i + 7) / 8) i ++ [0] = wordsTo s.data.toList (i / 8 + 1) i := by
        rw [show (i + 7) / 8 = i / 8 from by omega]
        exact push_words _ _ _ (by omega)
      obtain ⟨e1, e2, e3, e4⟩ := set_words s hs i hlt (by omega) _ hY
      rw [if_pos (by rw [hm, h8]; rfl), if_pos (by rw [len_wordsTo]; omega)]
      simp only [Option.bind_some]
      rw [if_pos e2, if_pos e3, if_pos (by omega), if_pos e4, e1, hi1]
      exact hnext
    · have hY : wordsTo s.data.toList ((i + 7) / 8) i = wordsTo s.data.toList (i / 8 + 1) i := by
        rw [show (i + 7) / 8 = i / 8 + 1 from by omega]
      obtain ⟨e1, e2, e3, e4⟩ := set_words s hs i hlt (by omega) _ hY
      rw [if_neg (by rw [hm]; omega)]
      rw [if_pos e2, if_pos e3, if_pos (by omega), if_pos e4, e1, hi1]
      exact hnext
theorem words_f (s : ByteArray) (hs : s.size ≤ 32768) : hornbookref12_Words.f (s.size + 1) s = some (wordsF s.data.toList) := by
  have hsl : (s.data.toList).length = s.size := (Lib.size_eq s).symm
  have := words_l0 s hs s.size 0 (s.size + 1) (by omega) (by omega)
  rw [show (0 + 7) / 8 = 0 from rfl, wordsTo_zero, hsl] at this
  exact this
theorem ri_of_R {w : World} {base : Nat} {ok : Nat → Prop} {v : Value} {xs : List Int} (h : Kd.R (Kd.int .i64) 2 w base ok v xs) : OI w v xs ∧ ∀ k, v.ownBlock = some k → base ≤ k := by
  obtain ⟨_, inner, ho, hl, hr⟩ := h
  have e : inner = xs.map (Value.int .i64) := by
    apply List.ext_getElem?
    intro j
    have h1 : inner.length = xs.length := by rw [hl]; exact Nat.mul_one _
    by_cases hj : j < xs.length
    · have := hr j _ (List.getElem?_eq_getElem hj)
      have h2 : (inner.drop (j * 1)).take 1 = [Value.int .i64 xs[j]] := this
      rw [Nat.mul_one] at h2
      have h3 := congrArg (fun z => z[0]?) h2
      simp only [List.getElem?_take, List.getElem?_drop, Nat.add_zero, Nat.zero_lt_one, if_true] at h3
      rw [h3, List.getElem?_map, List.getElem?_eq_getElem hj]
      rfl
    · rw [List.getElem?_eq_none (by omega), List.getElem?_eq_none (by rw [List.length_map]; omega)]
  subst e
  exact ⟨⟨ho.1, ho.2.imp (fun q => q) (fun ⟨g, cap, cur, e, _, q⟩ => ⟨g, cap, cur, e, Nat.zero_le _, q⟩)⟩, fun k hk => (World.ownsRow.lt ho k hk).1⟩
theorem wordsR46 (s : ByteArray) (hs : s.size ≤ 32768) (w : World) : Calls Try.prog 46 #[.string s] w fun e w' => ∃ v, e = .returned v ∧ OI w' v (wordsF s.data.toList) ∧ (∀ k, v.ownBlock = some k → w.heap.size ≤ k) ∧ Below w.heap.size w w' := by
  refine (hornbookref12_Words.calls _ s _ w (words_f s hs)).mono ?_
  rintro e w' ⟨v, rfl, h1, h2⟩
  obtain ⟨h3, h4⟩ := ri_of_R h1
  exact ⟨v, rfl, h3, h4, h2⟩

end Go.Proofs.Ytefiliomfiomfac
