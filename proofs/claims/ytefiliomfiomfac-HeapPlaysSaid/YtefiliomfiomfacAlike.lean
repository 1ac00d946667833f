/- The law's alike. -/
import Derived.Test.YtefiliomfiomfacDoB
namespace Go.Proofs.Ytefiliomfiomfac
open Go.RowKit Go.Maps

theorem sizeF_none {T : List Th} {a : Int} (h : find T a = none) : sizeF T a = (0, 3) ∧ typeF T a = (0, 3) ∧ sentAt T a = none := by
  unfold sizeF typeF sentAt
  rw [words_none h, h]
  exact ⟨rfl, rfl, rfl⟩
theorem sizeF_some {T : List Th} {a : Int} {k : Nat} (h : find T a = some k) (hk : k < T.length) : sizeF T a = ((T[k].w.length : Int), 0) ∧ typeF T a = ((T[k].id : Int), 0) ∧ sentAt T a = if T[k].sent = 0 then none else some T[k].sent := by
  unfold sizeF typeF sentAt
  rw [words_some h hk, h]
  simp only [Option.bind_some]
  rw [List.getElem?_eq_getElem hk]
  refine ⟨?_, ?_, ?_⟩ <;> first | rfl | trivial
set_option maxRecDepth 100000 in
set_option maxHeartbeats 4000000 in
theorem alike22 {B : Nat} {w : World} {p q : Value} {T : List Th} {most N : Nat} (h : B1 B w p q T T most N) (a n : Int) (ha : (Lit.int .i64 a).wf = true) :
    Calls Try.prog 22 #[p, q, .int .i64 a, .int .i64 n] w fun e w' => e = .returned (.bool true) ∧ Below w.heap.size w w' := by
  obtain ⟨_, F, G, L, h1, h2, h3, _⟩ := h
  subst h3
  have HK := Lib.hid (find40 h2 a)
  have tTy := type17 h1 a ha
  have tSz := size29 h1 a ha
  have tG := get16 h1 a n ha
  have tGR := getR41 h2 a n
  have tL := len11 h1 a ha
  have tLR := lenR42 h2 a
  have tB := bytes10 h1 a ha
  have tBR := fun (w' : World) (hb : Below w.heap.size w w') => bytesR43 (h2.below hb) a
  have HSE := Lib.hid (fun (w' : World) (hb : Below w.heap.size w w') => sent30 (h1.chg (Chg.of_below (F := fun _ => False) hb) (fun _ _ e => e)) a ha)
  have HSEE : Hid (∀ (w' : World), Below w.heap.size w w' → ∀ k (hk : k < L.length), ∃ (R b c wa wc : Nat) (wad : Option Addr), q = .pointer (some ⟨R, 0, none⟩) ∧ w'.cell? ⟨R, 1, none⟩ = some (.slice (some ⟨b, 0, none⟩) L.length c) ∧ w'.cell? ⟨b, k * 4 + 1, none⟩ = some (.int .i64 (L[k].id : Int)) ∧ w'.cell? ⟨b, k * 4 + 2, none⟩ = some (.slice wad L[k].w.length wc) ∧ w'.cell? ⟨b, k * 4 + 3, none⟩ = some (.int .i64 L[k].sent) ∧ L.length ≤ 4096 ∧ L[k].w.length ≤ 4096 ∧ wa = 0) := Lib.hid fun w' hb k hk => by
    have hr := h2.below hb
    obtain ⟨R, a, c, e, c0, c1, hs⟩ := hr.see
    obtain ⟨b, rfl, _, y1, y2, y3⟩ := hs k hk
    obtain ⟨wad, wc, hv⟩ := (hr.ows k hk).shape
    rw [hv] at y2
    have := UT_step L k hk
    have := UT_le L (k + 1)
    have := hr.len
    exact ⟨R, b, c, 0, wc, wad, e, c1, y1, y2, y3, this.1, by omega, rfl⟩
  generalize getF (L.map thOf) a n = gg at tG tGR
  generalize lenF (L.map thOf) a = ll at tL tLR
  generalize bytesF (L.map thOf) a = ss at tB tBR
  obtain ⟨g1, g2⟩ := gg
  obtain ⟨l1, l2⟩ := ll
  obtain ⟨s1, s2⟩ := ss
  have HG : Hid (Calls Try.prog 16 #[p, .int .i64 a, .int .i64 n] w fun e w' => e = .returned (.tuple #[.int .i64 g1, .int .i64 g2]) ∧ w' = w) := Lib.hid tG
  have HGR : Hid (Calls Try.prog 41 #[q, .int .i64 a, .int .i64 n] w fun e w' => e = .returned (.tuple #[.int .i64 g1, .int .i64 g2]) ∧ w' = w) := Lib.hid tGR
  have HL : Hid (Calls Try.prog 11 #[p, .int .i64 a] w fun e w' => e = .returned (.tuple #[.int .i64 l1, .int .i64 l2]) ∧ w' = w) := Lib.hid tL
  have HLR : Hid (Calls Try.prog 42 #[q, .int .i64 a] w fun e w' => e = .returned (.tuple #[.int .i64 l1, .int .i64 l2]) ∧ w' = w) := Lib.hid tLR
  have HB : Hid (Calls Try.prog 10 #[p, .int .i64 a] w fun e w' => e = .returned (.tuple #[.string ⟨s1.toArray⟩, .int .i64 s2]) ∧ Chg (fun _ => False) w w') := Lib.hid tB
  have HBR : Hid (∀ (w' : World), Below w.heap.size w w' → Calls Try.prog 43 #[q, .int .i64 a] w' fun e w'' => e = .returned (.tuple #[.string ⟨s1.toArray⟩, .int .i64 s2]) ∧ Below w'.heap.size w' w'') := Lib.hid tBR
  clear tG tGR tL tLR tB tBR
  generalize (⟨s1.toArray⟩ : ByteArray) = st at *
  obtain ⟨ad, hp⟩ := h1.p
  subst hp
  obtain ⟨R, hq⟩ := h2.p
  subst hq
  cases hf : find (L.map thOf) a with
  | none =>
    obtain ⟨e1, e2, e3⟩ := sizeF_none hf
    rw [e1] at tSz
    rw [e2] at tTy
    rw [e3] at HSE
    rw [FI_none hf] at HK
    have HTY : Hid (Calls Try.prog 17 #[.pointer (some ad), .int .i64 a] w fun e w' => e = .returned (.tuple #[.int .i64 0, .int .i64 3]) ∧ w' = w) := Lib.hid tTy
    have HSZ : Hid (Calls Try.prog 29 #[.pointer (some ad), .int .i64 a] w fun e w' => e = .returned (.tuple #[.int .i64 0, .int .i64 3]) ∧ w' = w) := Lib.hid tSz
    have HSN : Hid (∀ (w' : World), Below w.heap.size w w' → Calls Try.prog 30 #[.pointer (some ad), .int .i64 a] w' fun e w'' => e = .returned (.tuple #[.int .i64 0, .bool false]) ∧ w'' = w') := Lib.hid HSE.out
    clear tTy tSz HSE HSEE h1 h2 hf e1 e2 e3 ha
    go_enter Try.func22, Try.ntmps22
    go_wp2_with fail
    refine HK.out.mono ?_
    rintro e w1 ⟨rfl, rfl⟩
    go_wp2_with fail
    refine HTY.out.mono ?_
    rintro e w2 ⟨rfl, rfl⟩
    go_wp2_with fail
    refine HSZ.out.mono ?_
    rintro e w3 ⟨rfl, rfl⟩
    go_wp2_with fail
    refine HG.out.mono ?_
    rintro e w4 ⟨rfl, rfl⟩
    go_wp2_with fail
    refine HGR.out.mono ?_
    rintro e w5 ⟨rfl, rfl⟩
    go_wp2_with fail
    refine HL.out.mono ?_
    rintro e w6 ⟨rfl, rfl⟩
    go_wp2_with fail
    refine HLR.out.mono ?_
    rintro e w7 ⟨rfl, rfl⟩
    go_wp2_with fail
    refine HB.out.mono ?_
    rintro e w8 ⟨rfl, hc8⟩
    have HB8 := Lib.hid (hc8.below (Nat.le_refl _) (fun _ e => e.elim))
    clear hc8
    go_wp2_with fail
    refine (HBR.out w8 HB8.out).mono ?_
    rintro e w9 ⟨rfl, hb9⟩
    have HB9 := Lib.hid (HB8.out.trans (hb9.mono HB8.out.size))
    clear hb9
    go_wp2_with fail
    refine (HSN.out w9 HB9.out).mono ?_
    rintro e w10 ⟨rfl, rfl⟩
    go_wp2
    go_ret
    exact ⟨by simp, HB9.out⟩
  | some k =>
    obtain ⟨hk, _⟩ := find_rec hf
    have hkT : k < (L.map thOf).length := by simpa using hk
    obtain ⟨e1, e2, e3⟩ := sizeF_some hf hkT
    have hTk : (L.map thOf)[k] = thOf L[k] := by simp
    rw [hTk] at e1 e2 e3
    have x1 : (thOf L[k]).w = L[k].w := rfl
    have x2 : (thOf L[k]).id = L[k].id := rfl
    have x3 : (thOf L[k]).sent = L[k].sent := rfl
    rw [x1] at e1
    rw [x2] at e2
    rw [x3] at e3
    rw [e1] at tSz
    rw [e2] at tTy
    rw [e3] at HSE
    rw [FI_some hf] at HK
    have HSEE2 := Lib.hid (fun w' hb => HSEE.out w' hb k hk)
    have HTY : Hid (Calls Try.prog 17 #[.pointer (some ad), .int .i64 a] w fun e w' => e = .returned (.tuple #[.int .i64 (L[k].id : Int), .int .i64 0]) ∧ w' = w) := Lib.hid tTy
    have HSZ : Hid (Calls Try.prog 29 #[.pointer (some ad), .int .i64 a] w fun e w' => e = .returned (.tuple #[.int .i64 (L[k].w.length : Int), .int .i64 0]) ∧ w' = w) := Lib.hid tSz
    clear tTy tSz HSEE h1 h2 hf e1 e2 e3 x1 x2 x3 hTk ha
    generalize L[k].id = id at *
    generalize L[k].sent = z at *
    generalize L[k].w.length = ln at *
    by_cases hz : z = 0
    · subst hz
      rw [if_pos rfl] at HSE
      have HSN : Hid (∀ (w' : World), Below w.heap.size w w' → Calls Try.prog 30 #[.pointer (some ad), .int .i64 a] w' fun e w'' => e = .returned (.tuple #[.int .i64 0, .bool false]) ∧ w'' = w') := Lib.hid HSE.out
      clear HSE
      go_enter Try.func22, Try.ntmps22
      go_wp2_with fail
      refine HK.out.mono ?_
      rintro e w1 ⟨rfl, rfl⟩
      go_wp2_with fail
      refine HTY.out.mono ?_
      rintro e w2 ⟨rfl, rfl⟩
      go_wp2_with fail
      refine HSZ.out.mono ?_
      rintro e w3 ⟨rfl, rfl⟩
      go_wp2_with fail
      refine HG.out.mono ?_
      rintro e w4 ⟨rfl, rfl⟩
      go_wp2_with fail
      refine HGR.out.mono ?_
      rintro e w5 ⟨rfl, rfl⟩
      go_wp2_with fail
      refine HL.out.mono ?_
      rintro e w6 ⟨rfl, rfl⟩
      go_wp2_with fail
      refine HLR.out.mono ?_
      rintro e w7 ⟨rfl, rfl⟩
      go_wp2_with fail
      refine HB.out.mono ?_
      rintro e w8 ⟨rfl, hc8⟩
      have HB8 := Lib.hid (hc8.below (Nat.le_refl _) (fun _ e => e.elim))
      clear hc8
      go_wp2_with fail
      refine (HBR.out w8 HB8.out).mono ?_
      rintro e w9 ⟨rfl, hb9⟩
      have HB9 := Lib.hid (HB8.out.trans (hb9.mono HB8.out.size))
      clear hb9
      go_wp2_with fail
      refine (HSN.out w9 HB9.out).mono ?_
      rintro e w10 ⟨rfl, rfl⟩
      obtain ⟨R', b, c, _, wc, wad, eq, c1, y1, y2, y3, hl1, hl2, _⟩ := HSEE2.out w10 HB9.out
      injection eq with eq
      injection eq with eq
      injection eq with eq
      subst eq
      go_wp2
      go_ret
      exact ⟨by simp, HB9.out⟩
    · rw [if_neg hz] at HSE
      have HSN : Hid (∀ (w' : World), Below w.heap.size w w' → Calls Try.prog 30 #[.pointer (some ad), .int .i64 a] w' fun e w'' => e = .returned (.tuple #[.int .i64 z, .bool true]) ∧ w'' = w') := Lib.hid HSE.out
      have hzb : (z != 0) = true := by simpa using hz
      clear HSE hz
      go_enter Try.func22, Try.ntmps22
      go_wp2_with fail
      refine HK.out.mono ?_
      rintro e w1 ⟨rfl, rfl⟩
      go_wp2_with fail
      refine HTY.out.mono ?_
      rintro e w2 ⟨rfl, rfl⟩
      go_wp2_with fail
      refine HSZ.out.mono ?_
      rintro e w3 ⟨rfl, rfl⟩
      go_wp2_with fail
      refine HG.out.mono ?_
      rintro e w4 ⟨rfl, rfl⟩
      go_wp2_with fail
      refine HGR.out.mono ?_
      rintro e w5 ⟨rfl, rfl⟩
      go_wp2_with fail
      refine HL.out.mono ?_
      rintro e w6 ⟨rfl, rfl⟩
      go_wp2_with fail
      refine HLR.out.mono ?_
      rintro e w7 ⟨rfl, rfl⟩
      go_wp2_with fail
      refine HB.out.mono ?_
      rintro e w8 ⟨rfl, hc8⟩
      have HB8 := Lib.hid (hc8.below (Nat.le_refl _) (fun _ e => e.elim))
      clear hc8
      go_wp2_with fail
      refine (HBR.out w8 HB8.out).mono ?_
      rintro e w9 ⟨rfl, hb9⟩
      have HB9 := Lib.hid (HB8.out.trans (hb9.mono HB8.out.size))
      clear hb9
      go_wp2_with fail
      refine (HSN.out w9 HB9.out).mono ?_
      rintro e w10 ⟨rfl, rfl⟩
      obtain ⟨R', b, c, _, wc, wad, eq, c1, y1, y2, y3, hl1, hl2, _⟩ := HSEE2.out w10 HB9.out
      injection eq with eq
      injection eq with eq
      injection eq with eq
      subst eq
      go_wp2
      go_ret
      exact ⟨by simp, HB9.out⟩
end Go.Proofs.Ytefiliomfiomfac
