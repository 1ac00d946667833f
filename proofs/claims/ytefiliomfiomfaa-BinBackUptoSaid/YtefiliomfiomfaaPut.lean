/- The reference's Put, and the two functions Text. -/
import Derived.Test.YtefiliomfiomfaaApp
namespace Go.Proofs.Ytefiliomfiomfaa
open Go.RowKit

theorem rd_one (w : World) (x : Int) (c : UInt8) (T : TypeId) (fr : Nat × Nat) (h : x = c.toNat) : Rd (w.alloc (.cells #[.int .u8 x] T fr)) (.slice (some ⟨w.heap.size, 0, none⟩) 1 1) [c] := by
  refine ⟨_, 1, rfl, by simp, (fun h => by cases h), fun _ => ⟨w.heap.size, 0, rfl, by simp, ?_⟩⟩
  intro i hi
  have : i = 0 := by simpa using hi
  subst this
  rw [World.cell?_alloc_mark, h]
  rfl
def QInv (u0 B : Nat) (l : List UInt8) (w : World) (vo vu : Value) (wr : World) : Prop :=
  ∃ (U : Nat) (L : List UInt8), vu = .int .u64 U ∧ l ++ enc u0 = L ++ enc U ∧ U < 18446744073709551616 ∧ Own wr B vo L ∧ Below B w wr ∧ B ≤ wr.heap.size

theorem zig_pos {n : Int} (h : ¬ n < 0) : n * 2 = (zig n : Int) := by
  unfold zig
  rw [if_neg h]
  omega
theorem zig_neg {n : Int} (h : n < 0) : -(n + 1) * 2 + 1 = (zig n : Int) := by
  unfold zig
  rw [if_pos h]
  omega

set_option maxRecDepth 100000 in
set_option maxHeartbeats 2000000 in
theorem put19_pos (v : Value) (l : List UInt8) (n : Int) (w : World) (hv : Rd w v l) (h0 : ¬ n < 0) (hhi : n ≤ 9223372036854775807) (hl : l.length + 10 ≤ 140737488355328) :
    Calls Try.prog 19 #[v, .int .i64 n] w fun e w' => ∃ v', e = .returned v' ∧ Own w' w.heap.size v' (l ++ enc (zig n)) ∧ Below w.heap.size w w' := by
  have hz := zig_pos h0
  have hlt := zig_lt n (by omega) hhi
  have hten := enc_ten _ hlt
  generalize zig n = u0 at *
  have hg : decide (n < 0) = false := decide_eq_false h0
  have HT := Lib.hid hten
  have HLT := Lib.hid hlt
  have HZ := Lib.hid hz
  have HV := Lib.hid hv
  clear hv hz hlt hten
  go_enter Try.func19, Try.ntmps19
  go_wp2_with (at_builtin; refine wpList_appB rfl (.tmp 7) (.tmp 8) rfl w.heap.size (.slice none 0 0) v [] l rfl rfl (Own.nil _ _) HV.out ?h1 (Nat.le_refl _) ?_)
  case h1 => first | omega | (simp; omega)
  intro vo w1 ho hb
  have HO := Lib.hid ho
  have HB := Lib.hid hb
  clear ho hb
  go_wp2
  go_loopw [5, 6] (QInv u0 w.heap.size l w) (fun _ u _ => (intOf u).toNat)
  case atStart => exact ⟨u0, l, by rw [HZ.out], rfl, HLT.out, by simpa using HO.out, HB.out, HB.out.size⟩
  case round =>
    obtain ⟨U, L, rfl, he, hU, ho, hb, hs⟩ := hrel
    have hlen : L.length + (enc U).length ≤ l.length + 10 := by
      have := congrArg List.length he
      have h10 := HT.out
      simp only [List.length_append] at this
      omega
    have hpos := enc_pos U
    have HE := Lib.hid he
    have HO2 := Lib.hid ho
    have HB2 := Lib.hid hb
    clear he ho hb HO HB HZ
    by_cases h : 128 ≤ U
    · obtain ⟨c, hc⟩ : ∃ c, c = UInt8.ofNat (U % 128 + 128) := ⟨_, rfl⟩
      have hx : (U : Int) % 128 + 128 = (c.toNat : Int) := by rw [hc, UInt8.toNat_ofNat']; omega
      have HX := Lib.hid hx
      have HC := Lib.hid hc
      clear hx hc
      go_wp2_with (at_builtin; refine wpList_appB rfl (.tmp 23) (.tmp 28) rfl w.heap.size u5 _ L [c] rfl rfl (HO2.out.below (Below.alloc (Below.refl _ _) (Nat.le_refl _) _)) (rd_one _ _ _ _ _ HX.out) ?h2 ?h3 ?_)
      case h2 => first | omega | (simp; omega)
      case h3 => simp; omega
      intro v2 w2 ho3 hb3
      have HO3 := Lib.hid ho3
      have HB3 := Lib.hid hb3
      clear ho3 hb3
      go_wp2
      go_roundw
      case rel =>
        refine ⟨U / 128, L ++ [c], by simp, ?_, by omega, HO3.out, (HB2.out.alloc hs _).trans HB3.out, ?_⟩
        · rw [HE.out, enc_big (u := U) (by omega), HC.out]; simp
        · have := HB3.out.size
          simp at this
          omega
      case measure => simp [intOf]; omega
    · have hx : (U : Int) = ((UInt8.ofNat U).toNat : Int) := by rw [UInt8.toNat_ofNat']; omega
      have HX := Lib.hid hx
      clear hx
      go_wp2_with (at_builtin; refine wpList_appB rfl (.tmp 32) (.tmp 35) rfl w.heap.size u5 _ L [UInt8.ofNat U] rfl rfl (HO2.out.below (Below.alloc (Below.refl _ _) (Nat.le_refl _) _)) (rd_one _ _ _ _ _ HX.out) ?h4 ?h5 ?_)
      case h4 => first | omega | (simp; omega)
      case h5 => simp; omega
      intro v2 w2 ho3 hb3
      have HO3 := Lib.hid ho3
      have HB3 := Lib.hid hb3
      clear ho3 hb3
      go_wp2
      go_ret
      refine ⟨v2, rfl, ?_, (HB2.out.alloc hs _).trans HB3.out⟩
      rw [HE.out, enc_small (u := U) (by omega)]
      exact HO3.out
set_option maxRecDepth 100000 in
set_option maxHeartbeats 2000000 in
theorem put19_neg (v : Value) (l : List UInt8) (n : Int) (w : World) (hv : Rd w v l) (h0 : n < 0) (hlo : -9223372036854775808 ≤ n) (hl : l.length + 10 ≤ 140737488355328) :
    Calls Try.prog 19 #[v, .int .i64 n] w fun e w' => ∃ v', e = .returned v' ∧ Own w' w.heap.size v' (l ++ enc (zig n)) ∧ Below w.heap.size w w' := by
  have hz := zig_neg h0
  have hlt := zig_lt n hlo (by omega)
  have hten := enc_ten _ hlt
  generalize zig n = u0 at *
  have hg : decide (n < 0) = true := decide_eq_true h0
  have HT := Lib.hid hten
  have HLT := Lib.hid hlt
  have HZ := Lib.hid hz
  have HV := Lib.hid hv
  clear hv hz hlt hten
  go_enter Try.func19, Try.ntmps19
  go_wp2_with (at_builtin; refine wpList_appB rfl (.tmp 7) (.tmp 8) rfl w.heap.size (.slice none 0 0) v [] l rfl rfl (Own.nil _ _) HV.out ?h1 (Nat.le_refl _) ?_)
  case h1 => first | omega | (simp; omega)
  intro vo w1 ho hb
  have HO := Lib.hid ho
  have HB := Lib.hid hb
  clear ho hb
  go_wp2
  go_loopw [5, 6] (QInv u0 w.heap.size l w) (fun _ u _ => (intOf u).toNat)
  case atStart => exact ⟨u0, l, by rw [HZ.out], rfl, HLT.out, by simpa using HO.out, HB.out, HB.out.size⟩
  case round =>
    obtain ⟨U, L, rfl, he, hU, ho, hb, hs⟩ := hrel
    have hlen : L.length + (enc U).length ≤ l.length + 10 := by
      have := congrArg List.length he
      have h10 := HT.out
      simp only [List.length_append] at this
      omega
    have hpos := enc_pos U
    have HE := Lib.hid he
    have HO2 := Lib.hid ho
    have HB2 := Lib.hid hb
    clear he ho hb HO HB HZ
    by_cases h : 128 ≤ U
    · obtain ⟨c, hc⟩ : ∃ c, c = UInt8.ofNat (U % 128 + 128) := ⟨_, rfl⟩
      have hx : (U : Int) % 128 + 128 = (c.toNat : Int) := by rw [hc, UInt8.toNat_ofNat']; omega
      have HX := Lib.hid hx
      have HC := Lib.hid hc
      clear hx hc
      go_wp2_with (at_builtin; refine wpList_appB rfl (.tmp 23) (.tmp 28) rfl w.heap.size u5 _ L [c] rfl rfl (HO2.out.below (Below.alloc (Below.refl _ _) (Nat.le_refl _) _)) (rd_one _ _ _ _ _ HX.out) ?h2 ?h3 ?_)
      case h2 => first | omega | (simp; omega)
      case h3 => simp; omega
      intro v2 w2 ho3 hb3
      have HO3 := Lib.hid ho3
      have HB3 := Lib.hid hb3
      clear ho3 hb3
      go_wp2
      go_roundw
      case rel =>
        refine ⟨U / 128, L ++ [c], by simp, ?_, by omega, HO3.out, (HB2.out.alloc hs _).trans HB3.out, ?_⟩
        · rw [HE.out, enc_big (u := U) (by omega), HC.out]; simp
        · have := HB3.out.size
          simp at this
          omega
      case measure => simp [intOf]; omega
    · have hx : (U : Int) = ((UInt8.ofNat U).toNat : Int) := by rw [UInt8.toNat_ofNat']; omega
      have HX := Lib.hid hx
      clear hx
      go_wp2_with (at_builtin; refine wpList_appB rfl (.tmp 32) (.tmp 35) rfl w.heap.size u5 _ L [UInt8.ofNat U] rfl rfl (HO2.out.below (Below.alloc (Below.refl _ _) (Nat.le_refl _) _)) (rd_one _ _ _ _ _ HX.out) ?h4 ?h5 ?_)
      case h4 => first | omega | (simp; omega)
      case h5 => simp; omega
      intro v2 w2 ho3 hb3
      have HO3 := Lib.hid ho3
      have HB3 := Lib.hid hb3
      clear ho3 hb3
      go_wp2
      go_ret
      refine ⟨v2, rfl, ?_, (HB2.out.alloc hs _).trans HB3.out⟩
      rw [HE.out, enc_small (u := U) (by omega)]
      exact HO3.out
theorem put19 (v : Value) (l : List UInt8) (n : Int) (w : World) (hv : Rd w v l) (hlo : -9223372036854775808 ≤ n) (hhi : n ≤ 9223372036854775807) (hl : l.length + 10 ≤ 140737488355328) :
    Calls Try.prog 19 #[v, .int .i64 n] w fun e w' => ∃ v', e = .returned v' ∧ Own w' w.heap.size v' (l ++ enc (zig n)) ∧ Below w.heap.size w w' := by
  by_cases h : n < 0
  · exact put19_neg v l n w hv h hlo hl
  · exact put19_pos v l n w hv h hhi hl

theorem big_list {s : ByteArray} : s.size = s.data.toList.length := Lib.size_eq s
end Go.Proofs.Ytefiliomfiomfaa
