/- The reference's Text. -/
import Derived.Test.YtefiliomfiomfacRWords
import Derived.Test.YtefiliomfiomfacRMake
namespace Go.Proofs.Ytefiliomfiomfac
open Go.RowKit Go.Maps

set_option maxHeartbeats 1000000 in
theorem textR37 {w : World} {F : Nat → Prop} {p : Value} {L : List Rec} {most : Nat} (h : RT w F p L most) (id : Int) (s : ByteArray) :
    Calls Try.prog 37 #[p, .int .i64 id, .string s] w (RPost w F p most (textF (L.map thOf) most id s.data.toList)) := by
  have hsl : (s.data.toList).length = s.size := (Lib.size_eq s).symm
  have H := Lib.hid h
  unfold textF
  rw [hsl]
  by_cases q1 : id < 0
  · rw [if_pos (.inl q1)]
    obtain ⟨R, rfl⟩ := h.p
    clear h
    go_enter Try.func37, Try.ntmps37
    go_wp2
    go_ret2
    exact RPost.same H.out rfl (Chg.refl _ _)
  · by_cases q2 : 65535 < id
    · rw [if_pos (.inr q2)]
      obtain ⟨R, rfl⟩ := h.p
      clear h
      go_enter Try.func37, Try.ntmps37
      go_wp2
      go_ret2
      exact RPost.same H.out rfl (Chg.refl _ _)
    · rw [if_neg (by omega)]
      by_cases q3 : 32768 < s.size
      · rw [if_pos q3]
        obtain ⟨R, rfl⟩ := h.p
        clear h
        go_enter Try.func37, Try.ntmps37
        go_wp2
        go_ret2
        exact RPost.same H.out rfl (Chg.refl _ _)
      · rw [if_neg q3]
        obtain ⟨i, rfl⟩ : ∃ i : Nat, id = (i : Int) := ⟨id.toNat, by omega⟩
        rw [Int.toNat_natCast]
        have hi : i ≤ 65535 := by omega
        have HW := Lib.hid (fun w' => wordsR46 s (by omega) w')
        have HP := Lib.hid (fun (w' : World) (v : Value) (hc : Chg (fun _ => False) w w') (hw : RI w' v (wordsF s.data.toList)) => (putR45 (h.chg hc (fun _ _ e => e)) i hi _ v hw (by rw [len_wordsF, hsl]; omega)))
        generalize putF (L.map thOf) most i (wordsF s.data.toList) = res at *
        generalize wordsF s.data.toList = ws at *
        obtain ⟨r1, r2, r3⟩ := res
        obtain ⟨R, rfl⟩ := h.p
        clear h hsl
        go_enter Try.func37, Try.ntmps37
        go_wp2_with fail
        refine (HW.out _).mono ?_
        rintro e w3 ⟨v, rfl, ho3, _, hb3⟩
        have hc3 : Chg (fun _ => False) w w3 := Chg.of_below hb3
        have HCALL := Lib.hid (HP.out w3 v hc3 ho3.ri)
        have HC3 := Lib.hid hc3
        clear ho3 hb3 hc3
        go_wp2_with fail
        refine HCALL.out.mono ?_
        rintro e w4 ⟨rfl, h4⟩
        have H4 : Hid (RPost w (F) (.pointer (some ⟨R, 0, none⟩)) most (r1, r2, r3) (.returned (.tuple #[.int .i64 r1, .int .i64 r2])) w4) := Lib.hid (RPost.of ⟨rfl, h4⟩ HC3.out (fun _ e => e.elim))
        clear h4
        go_wp2
        go_ret2
        exact H4.out
end Go.Proofs.Ytefiliomfiomfac
