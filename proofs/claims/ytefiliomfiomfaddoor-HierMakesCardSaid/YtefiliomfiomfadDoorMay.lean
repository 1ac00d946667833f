/- hier's may. -/
import Derived.Test.YtefiliomfiomfadDoorKnown
namespace Go.Proofs.YtefiliomfiomfadDoor
open Go.RowKit

/-- The place of the first text of which g holds; -1: there is none. -/
def idxN (g : BA → Bool) : List BA → Nat → Int
  | [], _ => -1
  | s :: r, k => if g s then (k : Int) else idxN g r (k + 1)
theorem idxN_cons (g : BA → Bool) (s : BA) (r : List BA) (k : Nat) : idxN g (s :: r) k = if g s then (k : Int) else idxN g r (k + 1) := rfl
theorem idxN_any (g : BA → Bool) (l : List BA) (k : Nat) : decide (0 ≤ idxN g l k) = l.any g := by
  induction l generalizing k with
  | nil => rfl
  | cons s r ih =>
    rw [idxN_cons, List.any_cons]
    cases hg : g s with
    | true => simp
    | false => simpa using ih (k + 1)
set_option maxHeartbeats 1000000 in
theorem index34_42 (g : BA → Bool) (cap : Value) (l : List BA) (v : Value) (w : World) (hl : RS w v l) (hlen : l.length ≤ 1048576)
    (hg : ∀ s, s ∈ l → ∀ w', Below w.heap.size w w' → Calls Tryd.prog 42 #[.string s, cap] w' fun e w'' => e = .returned (.bool (g s)) ∧ Below w'.heap.size w' w'') :
    Calls Tryd.prog 34 #[v, .func (Fn.func 42) #[] #[cap]] w fun e w' => e = .returned (.int .i64 (idxN g l 0)) ∧ Below w.heap.size w w' := by
  obtain ⟨a, c, rfl, hlc, _, hcl⟩ := hl
  have HCL := Lib.hid hcl
  have HG := Lib.hid hg
  clear hcl hg
  go_enter Tryd.func34, Tryd.ntmps34
  go_wp2
  go_loopw [8] (fun i wr => ∃ k : Nat, k ≤ l.length ∧ i = .int .i64 k ∧ Hid (Below w.heap.size w wr) ∧ Hid (idxN g l 0 = idxN g (l.drop k) k)) (fun i _ => l.length - (intOf i).toNat)
  case atStart => exact ⟨0, Nat.zero_le _, rfl, Lib.hid (Below.refl _ _), Lib.hid rfl⟩
  case round =>
    obtain ⟨k, hk, rfl, hb, hr⟩ := hrel
    by_cases hkl : k < l.length
    · obtain ⟨b, o, rfl, hbl, hcell⟩ := HCL.out (fun e => by rw [e] at hkl; simp at hkl)
      have hc := (hb.out.cell (p := ⟨b, o + k, none⟩) hbl).trans (hcell k hkl)
      have hcall := HG.out l[k] (List.getElem_mem hkl) wr hb.out
      have hr2 := hr.out
      rw [List.drop_eq_getElem_cons hkl, idxN_cons] at hr2
      generalize l[k] = s at *
      have HR := Lib.hid hr2
      have HC := Lib.hid hcall
      clear hcell hcall hr hr2
      cases hgs : g s with
      | true =>
        have h2 := HR.out
        rw [hgs] at h2 HC
        have HX : Hid (idxN g l 0 = (k : Int)) := Lib.hid h2
        clear h2 hgs HR
        go_wp2_with fail
        refine HC.out.mono ?_
        rintro e w2 ⟨rfl, hb2⟩
        have HB := Lib.hid (hb.out.trans (hb2.mono hb.out.size))
        clear hb2
        go_wp2
        go_ret
        rw [HX.out]
        exact ⟨rfl, HB.out⟩
      | false =>
        have h2 := HR.out
        rw [hgs] at h2 HC
        have HX : Hid (idxN g l 0 = idxN g (l.drop (k + 1)) (k + 1)) := Lib.hid h2
        clear h2 hgs HR
        go_wp2_with fail
        refine HC.out.mono ?_
        rintro e w2 ⟨rfl, hb2⟩
        have HB := Lib.hid (hb.out.trans (hb2.mono hb.out.size))
        clear hb2
        go_wp2
        go_roundw
        case rel => exact ⟨k + 1, by omega, by go_num, HB, HX⟩
        case measure => simp [intOf]; omega
    · have hr2 := hr.out
      rw [List.drop_of_length_le (by omega)] at hr2
      have HX : Hid (idxN g l 0 = -1) := Lib.hid hr2
      clear hr hr2
      go_wp2
      go_ret
      rw [HX.out]
      exact ⟨rfl, hb.out⟩
set_option maxHeartbeats 1000000 in
theorem index34_35 (g : BA → Bool) (cap : Value) (l : List BA) (v : Value) (w : World) (hl : RS w v l) (hlen : l.length ≤ 1048576)
    (hg : ∀ s, s ∈ l → ∀ w', Below w.heap.size w w' → Calls Tryd.prog 35 #[.string s, cap] w' fun e w'' => e = .returned (.bool (g s)) ∧ Below w'.heap.size w' w'') :
    Calls Tryd.prog 34 #[v, .func (Fn.func 35) #[] #[cap]] w fun e w' => e = .returned (.int .i64 (idxN g l 0)) ∧ Below w.heap.size w w' := by
  obtain ⟨a, c, rfl, hlc, _, hcl⟩ := hl
  have HCL := Lib.hid hcl
  have HG := Lib.hid hg
  clear hcl hg
  go_enter Tryd.func34, Tryd.ntmps34
  go_wp2
  go_loopw [8] (fun i wr => ∃ k : Nat, k ≤ l.length ∧ i = .int .i64 k ∧ Hid (Below w.heap.size w wr) ∧ Hid (idxN g l 0 = idxN g (l.drop k) k)) (fun i _ => l.length - (intOf i).toNat)
  case atStart => exact ⟨0, Nat.zero_le _, rfl, Lib.hid (Below.refl _ _), Lib.hid rfl⟩
  case round =>
    obtain ⟨k, hk, rfl, hb, hr⟩ := hrel
    by_cases hkl : k < l.length
    · obtain ⟨b, o, rfl, hbl, hcell⟩ := HCL.out (fun e => by rw [e] at hkl; simp at hkl)
      have hc := (hb.out.cell (p := ⟨b, o + k, none⟩) hbl).trans (hcell k hkl)
      have hcall := HG.out l[k] (List.getElem_mem hkl) wr hb.out
      have hr2 := hr.out
      rw [List.drop_eq_getElem_cons hkl, idxN_cons] at hr2
      generalize l[k] = s at *
      have HR := Lib.hid hr2
      have HC := Lib.hid hcall
      clear hcell hcall hr hr2
      cases hgs : g s with
      | true =>
        have h2 := HR.out
        rw [hgs] at h2 HC
        have HX : Hid (idxN g l 0 = (k : Int)) := Lib.hid h2
        clear h2 hgs HR
        go_wp2_with fail
        refine HC.out.mono ?_
        rintro e w2 ⟨rfl, hb2⟩
        have HB := Lib.hid (hb.out.trans (hb2.mono hb.out.size))
        clear hb2
        go_wp2
        go_ret
        rw [HX.out]
        exact ⟨rfl, HB.out⟩
      | false =>
        have h2 := HR.out
        rw [hgs] at h2 HC
        have HX : Hid (idxN g l 0 = idxN g (l.drop (k + 1)) (k + 1)) := Lib.hid h2
        clear h2 hgs HR
        go_wp2_with fail
        refine HC.out.mono ?_
        rintro e w2 ⟨rfl, hb2⟩
        have HB := Lib.hid (hb.out.trans (hb2.mono hb.out.size))
        clear hb2
        go_wp2
        go_roundw
        case rel => exact ⟨k + 1, by omega, by go_num, HB, HX⟩
        case measure => simp [intOf]; omega
    · have hr2 := hr.out
      rw [List.drop_of_length_le (by omega)] at hr2
      have HX : Hid (idxN g l 0 = -1) := Lib.hid hr2
      clear hr hr2
      go_wp2
      go_ret
      rw [HX.out]
      exact ⟨rfl, hb.out⟩

theorem contains41 (g : BA → Bool) (cap : Value) (l : List BA) (v : Value) (w : World) (hl : RS w v l) (hlen : l.length ≤ 1048576)
    (hg : ∀ s, s ∈ l → ∀ w', Below w.heap.size w w' → Calls Tryd.prog 42 #[.string s, cap] w' fun e w'' => e = .returned (.bool (g s)) ∧ Below w'.heap.size w' w'') :
    Calls Tryd.prog 41 #[v, .func (Fn.func 42) #[] #[cap]] w fun e w' => e = .returned (.bool (l.any g)) ∧ Below w.heap.size w w' := by
  have HC := Lib.hid (index34_42 g cap l v w hl hlen hg)
  have HI := Lib.hid (idxN_any g l 0)
  clear hl hg
  generalize idxN g l 0 = n at *
  go_enter Tryd.func41, Tryd.ntmps41
  go_wp2_with fail
  refine HC.out.mono ?_
  rintro e w1 ⟨rfl, hb⟩
  have HB := Lib.hid hb
  clear hb
  go_wp2
  go_ret
  rw [← HI.out]
  exact ⟨rfl, HB.out⟩
def badF (H : List (BA × BA)) (s : BA) : Bool := !(decide (s = isN)) && !(knownF H s)
theorem may42 {w : World} {F : Nat → Prop} {p : Value} {H : List (BA × BA)} {N : Nat} (h : HP w F p H N) (o : Nat) (c0 : w.cell? ⟨o, 0, none⟩ = some p) (s : BA) (hs : s.size ≤ maxLen) :
    Calls Tryd.prog 42 #[.string s, .pointer (some ⟨o, 0, none⟩)] w fun e w' => e = .returned (.bool (badF H s)) ∧ Below w.heap.size w w' := by
  have HK := Lib.hid (known11 h s hs)
  obtain ⟨hb, rfl⟩ := h.p
  have h1 := eqN s
  unfold badF
  generalize decide (s = isN) = b at *
  generalize knownF H s = k at *
  clear h hs
  cases b
  · go_enter Tryd.func42, Tryd.ntmps42
    go_wp2_with fail
    refine HK.out.mono ?_
    rintro e w1 ⟨rfl, hb⟩
    have HB := Lib.hid hb
    clear hb
    go_wp2
    go_ret
    exact ⟨by simp, HB.out⟩
  · go_enter Tryd.func42, Tryd.ntmps42
    go_wp2
    go_ret
    exact ⟨by simp, Below.refl _ _⟩
theorem any_all (H : List (BA × BA)) (l : List BA) : (!(l.any (badF H))) = l.all (mayF H) := by
  induction l with
  | nil => rfl
  | cons s r ih =>
    rw [List.any_cons, List.all_cons, Bool.not_or, ih]
    congr 1
    unfold badF mayF
    cases decide (s = isN) <;> simp
theorem may_nil (v : Value) (w : World) : Calls Tryd.prog 27 #[.pointer none, v] w fun e w' => e = .returned (.bool false) ∧ Below w.heap.size w w' := by
  go_enter Tryd.func27, Tryd.ntmps27
  go_wp2
  go_ret
  exact ⟨rfl, (Below.refl _ w).alloc (Nat.le_refl _) _⟩
theorem may27 {w : World} {F : Nat → Prop} {p : Value} {H : List (BA × BA)} {N : Nat} (h : HP w F p H N) (l : List BA) (v : Value) (hl : RS w v l) (hlen : l.length ≤ 1048576) (hsz : ∀ s ∈ l, s.size ≤ maxLen) :
    Calls Tryd.prog 27 #[p, v] w fun e w' => e = .returned (.bool (l.all (mayF H))) ∧ Below w.heap.size w w' := by
  have hal := h.chg (Chg.alloc (fun _ => False) w (.cells #[p] 24)) (fun _ _ e => e)
  have hc : (w.alloc (.cells #[p] 24)).cell? ⟨w.heap.size, 0, none⟩ = some p := by rw [World.cell?_alloc_mark]; rfl
  have HC := Lib.hid (contains41 (badF H) (.pointer (some ⟨w.heap.size, 0, none⟩)) l v (w.alloc (.cells #[p] 24)) (hl.chg (Chg.alloc (fun _ => False) w _) (fun _ _ e => e)) hlen (fun s hs w' hb => may42 (hal.below hb) _ ((hb.cell (p := ⟨w.heap.size, 0, none⟩) (by simp)).trans hc) s (hsz s hs)))
  have he := any_all H l
  rw [← he]
  generalize l.any (badF H) = b at *
  obtain ⟨hb, rfl⟩ := h.p
  clear h hl hsz he hal hc
  go_enter Tryd.func27, Tryd.ntmps27
  go_wp2_with fail
  refine HC.out.mono ?_
  rintro e w1 ⟨rfl, hb1⟩
  have HB := Lib.hid (((Below.refl _ w).alloc (Nat.le_refl _) _).trans (hb1.mono (by simp)))
  clear hb1
  go_wp2
  go_ret
  exact ⟨rfl, HB.out⟩
end Go.Proofs.YtefiliomfiomfadDoor
