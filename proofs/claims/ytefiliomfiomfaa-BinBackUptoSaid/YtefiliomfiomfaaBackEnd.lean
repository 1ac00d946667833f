/- BinBack's walk, as its row asks for it. -/
import Derived.Test.YtefiliomfiomfaaBackLaw
namespace Go.Proofs.Ytefiliomfiomfaa
open Go.RowKit

theorem tot_len (l : List ByteArray) : l.length ≤ tot l := by
  induction l with
  | nil => simp [tot]
  | cons s r ih => simp only [tot, List.length_cons]; omega

theorem back_row (a0 : Option Addr) (n0 c0 : Nat) (l : List Int) (a1 : Option Addr) (n1 c1 : Nat) (ss : List ByteArray) (w : World) (hn0 : l.length = n0) (hl : RdI w (.slice a0 n0 c0) l) (hn1 : ss.length = n1) (hs : RdS w (.slice a1 n1 c1) ss) (hb : n0 + tot ss ≤ 1048576) :
    Calls Try.prog 6 #[.slice a0 n0 c0, .slice a1 n1 c1] w fun e w' => e = .returned (.bool true) ∧ Below w.heap.size w w' := by
  subst hn0
  subst hn1
  have hlen := encAll_len l hl.1
  have htx := txtAll_len ss (by omega)
  have hsl := tot_len ss
  have hI : ∃ b0 o0, (0 < l.length → a0 = some ⟨b0, o0, none⟩ ∧ b0 < w.heap.size) ∧ ∀ k (h : k < l.length), w.cell? ⟨b0, o0 + k, none⟩ = some (.int .i64 l[k]) := by
    rcases Nat.eq_zero_or_pos l.length with h | h
    · exact ⟨0, 0, fun h' => by omega, fun k h' => by omega⟩
    · obtain ⟨b, o, e, hlt, hc⟩ := hl.cells h
      exact ⟨b, o, fun _ => ⟨e, hlt⟩, hc⟩
  have hS : ∃ b1 o1, (0 < ss.length → a1 = some ⟨b1, o1, none⟩ ∧ b1 < w.heap.size) ∧ ∀ k (h : k < ss.length), w.cell? ⟨b1, o1 + k, none⟩ = some (.string ss[k]) := by
    rcases Nat.eq_zero_or_pos ss.length with h | h
    · exact ⟨0, 0, fun h' => by omega, fun k h' => by omega⟩
    · obtain ⟨b, o, e, hlt, hc⟩ := hs.cells h
      exact ⟨b, o, fun _ => ⟨e, hlt⟩, hc⟩
  obtain ⟨b0, o0, h1, h2⟩ := hI
  obtain ⟨b1, o1, h3, h4⟩ := hS
  have hsplitE := fun k h => congrArg List.length (encAll_split l k h)
  have hsplitT := fun k h => congrArg List.length (txtAll_split ss k h)
  refine back_core a0 c0 l a1 c1 ss w b0 o0 b1 o1 h1 h2 h3 h4 (by omega) (by omega) (fun k => encAll (l.take k)) (fun k => encAll l ++ txtAll (ss.take k)) (fun k => ((encAll (l.take k)).length : Int)) (fun k => ((encAll l ++ txtAll (ss.take k)).length : Int)) (encAll l ++ txtAll ss).length
    ?_ ?_ ?_ ?_ ?_ ?_ ?_ ?_ ?_ ?_ ?_
  · intro w' hb'
    refine (all18 a0 _ c0 l w' rfl (hl.below hb') (by omega)).mono ?_
    rintro e w1 ⟨v', rfl, ho, hb1⟩
    refine ⟨v', rfl, ?_, hb1⟩
    have : encAll l ++ txtAll (ss.take 0) = encAll l := by simp [txtAll]
    rw [this]
    exact ho.rd
  · intro v k h w' hr
    have hx := hl.1 _ (List.getElem_mem h)
    have hq := hsplitE k h
    rw [List.length_append] at hq
    refine (put19 v (encAll (l.take k)) l[k] w' hr hx.1 hx.2 (by omega)).mono ?_
    rintro e w1 ⟨v', rfl, ho, hb1⟩
    refine ⟨v', rfl, ?_, hb1⟩
    show Rd _ _ (encAll (l.take (k + 1)))
    rw [encAll_step l k h]
    exact ho.rd
  · intro v k h w' hr
    have hz := tot_le h
    have hq := hsplitT k h
    rw [List.length_append] at hq
    refine (text13 v (encAll l ++ txtAll (ss.take k)) ss[k] w' hr (by rw [List.length_append]; omega)).mono ?_
    rintro e w1 ⟨v', rfl, ho, hb1⟩
    refine ⟨v', rfl, ?_, hb1⟩
    show Rd _ _ (encAll l ++ txtAll (ss.take (k + 1)))
    rw [txtAll_step ss k h, ← List.append_assoc]
    exact ho.rd
  · intro v k h w' hr
    have hx := hl.1 _ (List.getElem_mem h)
    have hr' : Rd w' v (encAll l ++ txtAll ss) := by
      have := hr
      simp only [List.take_length] at this
      exact this
    refine (get11 v (encAll l ++ txtAll ss) _ w' hr' (by rw [List.length_append]; omega)).mono ?_
    rintro e w1 ⟨rfl, hb1⟩
    refine ⟨?_, hb1⟩
    have hg : getF (encAll l ++ txtAll ss) ((encAll (l.take k)).length : Int) = (l[k], ((encAll (l.take k)).length : Int) + ((enc (zig l[k])).length : Int), 0) := by
      rw [encAll_split l k h, List.append_assoc, List.append_assoc]
      have := getF_enc l[k] hx.1 hx.2 (encAll (l.take k)) (encAll (l.drop (k + 1)) ++ txtAll ss)
      exact this
    rw [hg]
    have he : ((encAll (l.take (k + 1))).length : Int) = ((encAll (l.take k)).length : Int) + ((enc (zig l[k])).length : Int) := by rw [encAll_step l k h, List.length_append]; omega
    rw [he]
    rfl
  · intro v k h w' hr
    have hz := tot_le h
    have hr' : Rd w' v (encAll l ++ txtAll ss) := by
      have := hr
      simp only [List.take_length] at this
      exact this
    have hk := size_ok ss[k] (by omega)
    refine (gettext14 v (encAll l ++ txtAll ss) _ _ w' hr' (by rw [List.length_append]; omega) hk.1 hk.2).mono ?_
    rintro e w1 ⟨rfl, hb1⟩
    refine ⟨?_, hb1⟩
    have hg : gtF (encAll l ++ txtAll ss) ((encAll l ++ txtAll (ss.take k)).length : Int) (ss[k].size : Int) = (ss[k].data.toList, ((encAll l ++ txtAll (ss.take k)).length : Int) + ((one ss[k]).length : Int), 0) := by
      have := gtF_one ss[k] (by omega) (encAll l ++ txtAll (ss.take k)) (txtAll (ss.drop (k + 1)))
      rw [List.append_assoc, ← txtAll_split ss k h] at this
      exact this
    rw [hg]
    have he : ((encAll l ++ txtAll (ss.take (k + 1))).length : Int) = ((encAll l ++ txtAll (ss.take k)).length : Int) + ((one ss[k]).length : Int) := by rw [txtAll_step ss k h, ← List.append_assoc, List.length_append (bs := one _)]; omega
    rw [he]
    rfl
  · simp [Hid, encAll]
  · show encAll (l.take l.length) = encAll l ++ txtAll (ss.take 0)
    simp [txtAll]
  · simp [Hid, encAll]
  · show ((encAll (l.take l.length)).length : Int) = ((encAll l ++ txtAll (ss.take 0)).length : Int)
    simp [txtAll]
  · show ((encAll l ++ txtAll (ss.take ss.length)).length : Int) = _
    rw [List.take_length]
  · show (encAll l ++ txtAll (ss.take ss.length)).length = _
    rw [List.take_length]
end Go.Proofs.Ytefiliomfiomfaa
