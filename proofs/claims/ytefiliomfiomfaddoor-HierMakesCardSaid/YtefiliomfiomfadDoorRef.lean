/- The reference's hierarchy: always, Has, Super, Names, among, Texts. -/
import Derived.Test.YtefiliomfiomfadDoorOrder
namespace Go.Proofs.YtefiliomfiomfadDoor
open Go.RowKit

def cells2 (p : BA × BA) : List Value := [.string p.1, .string p.2]
/-- The slice v owns these pairs. -/
def OP (w : World) (v : Value) (L : List (BA × BA)) : Prop := w.ownsRow 0 54 2 v L.length (L.flatMap cells2)
theorem cells2_at (L : List (BA × BA)) (i : Nat) (h : i < L.length) (j : Nat) (hj : j < 2) : (L.flatMap cells2)[i * 2 + j]? = (cells2 L[i])[j]? := by
  induction L generalizing i with
  | nil => simp at h
  | cons p r ih =>
    rw [List.flatMap_cons]
    cases i with
    | zero =>
      rw [List.getElem?_append_left (by show 0 * 2 + j < 2; omega)]
      simp
    | succ i =>
      have hl : (cells2 p).length = 2 := rfl
      rw [List.getElem?_append_right (by rw [hl]; omega), hl, show (i + 1) * 2 + j - 2 = i * 2 + j from by omega, ih i (by simpa using h)]
      rfl
theorem OP.rp {w : World} {v : Value} {L : List (BA × BA)} (h : OP w v L) : ∃ a c, v = .slice a L.length c ∧ RP w a L := by
  have hlt := fun k hk => (World.ownsRow.lt h k hk).2
  obtain ⟨h1, h2⟩ := h
  rcases h2 with ⟨rfl, hn⟩ | ⟨g, cap, cur, rfl, hb, hg, hnc, hcm, hcs, ht⟩
  · have : L = [] := List.eq_nil_of_length_eq_zero hn
    subst this
    exact ⟨none, 0, rfl, fun h => absurd rfl h⟩
  · refine ⟨_, cap, rfl, fun _ => ⟨g, 0, rfl, hlt g rfl, fun i hi => ?_⟩⟩
    have hc : ∀ j, j < 2 → w.cell? ⟨g, 0 + i * 2 + j, none⟩ = (cells2 L[i])[j]? := by
      intro j hj
      rw [cell_of_row w g (0 + i * 2 + j) cur 54 (0, 0) hg, ← cells2_at L i hi j hj, ← ht]
      rw [List.getElem?_take, if_pos (by omega)]
      simp
    exact ⟨hc 0 (by omega), hc 1 (by omega)⟩
theorem OP.lt {w : World} {v : Value} {L : List (BA × BA)} (h : OP w v L) : ∀ k, v.ownBlock = some k → k < w.heap.size := fun k hk => (World.ownsRow.lt h k hk).2
theorem OP.chg {F : Nat → Prop} {w w' : World} {v : Value} {l : List (BA × BA)} (h : OP w v l) (hc : Chg F w w') (hb : ∀ k, v.ownBlock = some k → ¬ F k) : OP w' v l := by
  have hlt := h.lt
  obtain ⟨h1, h2⟩ := h
  refine ⟨h1, ?_⟩
  rcases h2 with h2 | ⟨g, cap, cur, rfl, hb0, hg, r⟩
  · exact .inl h2
  · exact .inr ⟨g, cap, cur, rfl, hb0, (hc.block g (hlt g rfl) (hb g rfl)).trans hg, r⟩
/-- The pointer p is the reference's hierarchy of these classes; its memory lies in F. -/
def RH (w : World) (F : Nat → Prop) (p : Value) (H : List (BA × BA)) : Prop :=
  (∀ k, F k → k < w.heap.size) ∧ ∃ R v, p = .pointer (some ⟨R, 0, none⟩) ∧ w.heap[R]? = some (.cells #[v] 63 (0, 0)) ∧ OP w v H ∧ v.ownBlock ≠ some R ∧ F R ∧ ∀ g, v.ownBlock = some g → F g
theorem RH.chg {w w' : World} {F G : Nat → Prop} {p : Value} {H : List (BA × BA)} (h : RH w F p H) (hc : Chg G w w') (hd : ∀ k, F k → ¬ G k) : RH w' F p H := by
  obtain ⟨hF, R, v, rfl, hb, ho, hn, f1, f2⟩ := h
  exact ⟨fun k hk => Nat.lt_of_lt_of_le (hF k hk) hc.size, R, v, rfl, (hc.block R (hF R f1) (hd R f1)).trans hb, ho.chg hc (fun k hk => hd k (f2 k hk)), hn, f1, f2⟩
theorem RH.below {w w' : World} {F : Nat → Prop} {p : Value} {H : List (BA × BA)} (h : RH w F p H) (hb : Below w.heap.size w w') : RH w' F p H := h.chg (Chg.of_below (F := fun _ => False) hb) (fun _ _ e => e)
theorem RH.p {w : World} {F : Nat → Prop} {p : Value} {H : List (BA × BA)} (h : RH w F p H) : ∃ R, p = .pointer (some ⟨R, 0, none⟩) := by obtain ⟨_, R, v, rfl, _⟩ := h; exact ⟨_, rfl⟩
/-- What reads see. -/
theorem RH.see {w : World} {F : Nat → Prop} {p : Value} {H : List (BA × BA)} (h : RH w F p H) : ∃ R a c, p = .pointer (some ⟨R, 0, none⟩) ∧ w.cell? ⟨R, 0, none⟩ = some (.slice a H.length c) ∧ RP w a H := by
  obtain ⟨_, R, v, rfl, hb, ho, _⟩ := h
  obtain ⟨a, c, rfl, hr⟩ := ho.rp
  exact ⟨R, a, c, rfl, by unfold World.cell?; rw [hb]; rfl, hr⟩

theorem look_cons (p : BA × BA) (r : List (BA × BA)) (c : BA) : look (p :: r) c = if p.1 = c then some p.2 else look r c := by
  unfold look
  by_cases h : p.1 = c
  · rw [if_pos h]; simp [h]
  · rw [if_neg h]; simp [h]
set_option maxHeartbeats 1000000 in
theorem has20 {w : World} {F : Nat → Prop} {p : Value} {H : List (BA × BA)} (h : RH w F p H) (hl : H.length ≤ 64) (c : BA) : Calls Tryd.prog 20 #[p, .string c] w fun e w' => e = .returned (.bool (look H c).isSome) ∧ w' = w := by
  obtain ⟨R, a, cp, rfl, c0, hr⟩ := h.see
  have HR := Lib.hid hr
  clear h hr
  go_enter Tryd.func20, Tryd.ntmps20
  go_wp2
  go_loop [5] (fun i => ∃ k : Nat, k ≤ H.length ∧ i = .int .i64 k ∧ Hid (look H c = look (H.drop k) c)) (fun i => H.length - (intOf i).toNat)
  case atStart => exact ⟨0, Nat.zero_le _, rfl, Lib.hid rfl⟩
  case round =>
    obtain ⟨k, hk, rfl, hlk⟩ := hrel
    by_cases hkl : k < H.length
    · obtain ⟨b, o, rfl, hbl, hcs⟩ := HR.out (fun e => by rw [e] at hkl; simp at hkl)
      obtain ⟨y0, _⟩ := hcs k hkl
      have h2 := hlk.out
      rw [List.drop_eq_getElem_cons hkl, look_cons] at h2
      obtain ⟨⟨nm, sp⟩, hx⟩ : ∃ x, H[k] = x := ⟨_, rfl⟩
      rw [hx] at y0 h2
      simp only at y0 h2
      have hbq := beqS nm c
      by_cases hc : nm = c
      · rw [decide_eq_true hc] at hbq
        rw [if_pos hc] at h2
        have HX : Hid ((look H c).isSome = true) := Lib.hid (by rw [h2]; rfl)
        clear hcs hx h2 hlk hc
        go_wp2
        go_ret
        rw [HX.out]
        exact ⟨rfl, rfl⟩
      · rw [decide_eq_false hc] at hbq
        rw [if_neg hc] at h2
        have HX := Lib.hid h2
        clear hcs hx h2 hlk hc
        go_wp2
        go_round
        case rel => exact ⟨k + 1, by omega, by go_num, HX⟩
        case measure => simp [intOf]; omega
    · have h2 := hlk.out
      rw [List.drop_of_length_le (by omega)] at h2
      have HX : Hid ((look H c).isSome = false) := Lib.hid (by rw [h2]; rfl)
      clear h2 hlk
      go_wp2
      go_ret
      rw [HX.out]
      exact ⟨rfl, rfl⟩
set_option maxHeartbeats 1000000 in
theorem super15 {w : World} {F : Nat → Prop} {p : Value} {H : List (BA × BA)} (h : RH w F p H) (hl : H.length ≤ 64) (c : BA) : Calls Tryd.prog 15 #[p, .string c] w fun e w' => e = .returned (.tuple #[.string (superF H c).1, .bool (superF H c).2]) ∧ w' = w := by
  obtain ⟨R, a, cp, rfl, c0, hr⟩ := h.see
  have HR := Lib.hid hr
  have hob := isObj c
  have HS : Hid (superF H c = match look H c with | none => (⟨#[]⟩, false) | some s => (s, !(decide (c = obj)))) := Lib.hid (by unfold superF; cases look H c <;> simp)
  clear h hr
  go_enter Tryd.func15, Tryd.ntmps15
  go_wp2
  go_loop [6] (fun i => ∃ k : Nat, k ≤ H.length ∧ i = .int .i64 k ∧ Hid (look H c = look (H.drop k) c)) (fun i => H.length - (intOf i).toNat)
  case atStart => exact ⟨0, Nat.zero_le _, rfl, Lib.hid rfl⟩
  case round =>
    obtain ⟨k, hk, rfl, hlk⟩ := hrel
    by_cases hkl : k < H.length
    · obtain ⟨b, o, rfl, hbl, hcs⟩ := HR.out (fun e => by rw [e] at hkl; simp at hkl)
      obtain ⟨y0, y1⟩ := hcs k hkl
      have h2 := hlk.out
      rw [List.drop_eq_getElem_cons hkl, look_cons] at h2
      obtain ⟨⟨nm, sp⟩, hx⟩ : ∃ x, H[k] = x := ⟨_, rfl⟩
      rw [hx] at y0 y1 h2
      simp only at y0 y1 h2
      have hbq := beqS nm c
      by_cases hc : nm = c
      · rw [decide_eq_true hc] at hbq
        rw [if_pos hc] at h2
        have hs := HS.out
        rw [h2] at hs
        simp only at hs
        have HX := Lib.hid hs
        clear hcs hx h2 hlk hc hs
        generalize decide (c = obj) = ob at *
        go_wp2
        go_ret2
        rw [HX.out]
        exact ⟨by rw [← hob]; rfl, rfl⟩
      · rw [decide_eq_false hc] at hbq
        rw [if_neg hc] at h2
        have HX := Lib.hid h2
        clear hcs hx h2 hlk hc
        go_wp2
        go_round
        case rel => exact ⟨k + 1, by omega, by go_num, HX⟩
        case measure => simp [intOf]; omega
    · have h2 := hlk.out
      rw [List.drop_of_length_le (by omega)] at h2
      have hs := HS.out
      rw [h2, look_nil] at hs
      simp only at hs
      have HX := Lib.hid hs
      clear h2 hlk hs
      go_wp2
      go_ret2
      rw [HX.out]
      exact ⟨rfl, rfl⟩
set_option maxHeartbeats 1000000 in
theorem among40 (l : List BA) (v : Value) (t : BA) (w : World) (hl : RS w v l) (hlen : l.length ≤ 1048576) :
    Calls Tryd.prog 40 #[v, .string t] w fun e w' => e = .returned (.bool (inF l t)) ∧ w' = w := by
  obtain ⟨a, c, rfl, hlc, _, hcl⟩ := hl
  have HCL := Lib.hid hcl
  clear hcl
  go_enter Tryd.func40, Tryd.ntmps40
  go_wp2
  go_loop [5] (fun i => ∃ k : Nat, k ≤ l.length ∧ i = .int .i64 k ∧ Hid (inF l t = inF (l.drop k) t)) (fun i => l.length - (intOf i).toNat)
  case atStart => exact ⟨0, Nat.zero_le _, rfl, Lib.hid rfl⟩
  case round =>
    obtain ⟨k, hk, rfl, hr⟩ := hrel
    by_cases hkl : k < l.length
    · obtain ⟨b, o, rfl, hbl, hcell⟩ := HCL.out (fun e => by rw [e] at hkl; simp at hkl)
      have hc := hcell k hkl
      have hr2 := hr.out
      rw [List.drop_eq_getElem_cons hkl] at hr2
      generalize l[k] = s at *
      have hb := beqS s t
      by_cases hst : s = t
      · rw [decide_eq_true hst] at hb
        have HX : Hid (inF l t = true) := Lib.hid (by rw [hr2]; unfold inF; simp [hst])
        clear hcell hr hr2 hst
        go_wp2
        go_ret
        rw [HX.out]
        exact ⟨rfl, rfl⟩
      · rw [decide_eq_false hst] at hb
        have HX : Hid (inF l t = inF (l.drop (k + 1)) t) := Lib.hid (by rw [hr2]; unfold inF; rw [List.any_cons, decide_eq_false (fun e => hst e.symm), Bool.false_or])
        clear hcell hr hr2 hst
        go_wp2
        go_round
        case rel => exact ⟨k + 1, by omega, by go_num, HX⟩
        case measure => simp [intOf]; omega
    · have hr2 := hr.out
      rw [List.drop_of_length_le (by omega)] at hr2
      have HX : Hid (inF l t = false) := Lib.hid hr2
      clear hr hr2
      go_wp2
      go_ret
      rw [HX.out]
      exact ⟨rfl, rfl⟩
set_option maxHeartbeats 1000000 in
theorem texts16 (l : List BA) (u v : Value) (w : World) (hu : RS w u l) (hv : RS w v l) (hlen : l.length ≤ 1048576) :
    Calls Tryd.prog 16 #[u, v] w fun e w' => e = .returned (.bool true) ∧ Below w.heap.size w w' := by
  obtain ⟨a, c, rfl, hlc, _, hcl⟩ := hu
  obtain ⟨a2, c2, rfl, hlc2, _, hcl2⟩ := hv
  have HCL := Lib.hid hcl
  have HCL2 := Lib.hid hcl2
  clear hcl hcl2
  go_enter Tryd.func16, Tryd.ntmps16
  go_wp2
  go_loopw [5] (fun i wr => ∃ k : Nat, k ≤ l.length ∧ i = .int .i64 k ∧ Hid (Below w.heap.size w wr)) (fun i _ => l.length - (intOf i).toNat)
  case atStart => exact ⟨0, Nat.zero_le _, rfl, Lib.hid (Below.refl _ _)⟩
  case round =>
    obtain ⟨k, hk, rfl, hb⟩ := hrel
    by_cases hkl : k < l.length
    · obtain ⟨b, o, rfl, hbl, hcell⟩ := HCL.out (fun e => by rw [e] at hkl; simp at hkl)
      obtain ⟨b2, o2, rfl, hbl2, hcell2⟩ := HCL2.out (fun e => by rw [e] at hkl; simp at hkl)
      have hc := (hb.out.cell (p := ⟨b, o + k, none⟩) hbl).trans (hcell k hkl)
      have hc2 := (hb.out.cell (p := ⟨b2, o2 + k, none⟩) hbl2).trans (hcell2 k hkl)
      generalize l[k] = s at *
      clear hcell hcell2
      have HBD := Lib.hid (fun n => hb.out.trans (((Chg.refl (fun _ => False) wr).drewN n).below hb.out.size (fun _ e => e.elim)))
      go_wp2
      go_quiet (fail)
      have HB2 := Lib.hid (HBD.out nq)
      go_wp2
      go_roundw
      case rel => exact ⟨k + 1, by omega, by go_num, HB2⟩
      case measure => simp [intOf]; omega
    · go_wp2
      go_ret
      exact ⟨rfl, hb.out⟩
end Go.Proofs.YtefiliomfiomfadDoor
