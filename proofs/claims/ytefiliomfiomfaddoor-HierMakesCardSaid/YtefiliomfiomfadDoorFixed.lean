/- The law's fixed calls. -/
import Derived.Test.YtefiliomfiomfadDoorJoin
import Derived.Test.YtefiliomfiomfadDoorTot
namespace Go.Proofs.YtefiliomfiomfadDoor
open Go.RowKit Go.Maps

def tA : BA := ⟨#[65]⟩
def tB : BA := ⟨#[66]⟩
def tC : BA := ⟨#[67]⟩
def kL : List (BA × BA) := [(tA, obj), (tB, tA), (tC, tA)]
def kH : List (BA × BA) := base ++ kL
theorem k_new : newF kL = (some kH, ⟨#[]⟩, 0) := by kernel_rfl
def lB : BA := ⟨#[76, 66, 59]⟩
def lC : BA := ⟨#[76, 67, 59]⟩
theorem k_small : lB.size ≤ 3 ∧ lC.size ≤ 3 ∧ isI.size ≤ 3 ∧ isN.size ≤ 3 ∧ ofObj.size ≤ 8 := by decide +kernel
theorem k1 : (mayF kH lB && mayF kH lC) = true ∧ subF kH lB lC = false ∧ subF kH lC lB = false ∧ refF lB = true ∧ refF lC = true ∧ classF lB = (tB, true) ∧ classF lC = (tC, true) := by decide +kernel
theorem k2 : idxN (fun s => inF (chainF kH tC) s) (chainF kH tB) 0 = ((1 : Nat) : Int) ∧ (∃ hi : 1 < (chainF kH tB).length, (chainF kH tB)[1] = tA) := by
  have e : chainF kH tB = [tB, tA, obj] := by decide +kernel
  refine ⟨by decide +kernel, ?_⟩
  rw [e]
  exact ⟨by decide, rfl⟩
theorem k3 : (mayF kH isI && mayF kH isN) = true ∧ subF kH isI isN = false ∧ subF kH isN isI = false ∧ refF isI = false ∧ subF kH lB ofObj = true := by decide +kernel
theorem k4 : ofF tA = ⟨#[76, 65, 59]⟩ := by decide +kernel
set_option maxRecDepth 100000 in
set_option maxHeartbeats 2000000 in
theorem known7 (w : World) : Calls Tryd.prog 7 #[] w fun e w' => e = .returned (.bool true) ∧ Below w.heap.size w w' := by
  have hsz : sizes kL := by
    intro p hp
    have : ∀ p ∈ kL, p.1.size ≤ 10 ∧ p.2.size ≤ 10 := by decide +kernel
    have := this p hp
    unfold maxLen
    omega
  have hrc : RC (w.alloc (.cells #[.string ⟨#[65]⟩, .string ⟨#[79, 98, 106, 101, 99, 116]⟩, .slice none 0 0, .slice none 0 0, .slice none 0 0, .string ⟨#[66]⟩, .string ⟨#[65]⟩, .slice none 0 0, .slice none 0 0, .slice none 0 0, .string ⟨#[67]⟩, .string ⟨#[65]⟩, .slice none 0 0, .slice none 0 0, .slice none 0 0] 48)) (some ⟨w.heap.size, 0, none⟩) kL := by
    intro _
    refine ⟨w.heap.size, 0, rfl, by simp, ?_⟩
    intro i hi
    refine ⟨none, 0, 0, none, 0, 0, none, 0, 0, ?_⟩
    simp only [World.cell?_alloc_mark]
    have : i = 0 ∨ i = 1 ∨ i = 2 := by have : i < 3 := hi; omega
    rcases this with rfl | rfl | rfl <;> exact ⟨rfl, rfl, rfl, rfl, rfl⟩
  have HN := Lib.hid (new8 (some ⟨w.heap.size, 0, none⟩) 3 kL _ hsz hrc (by unfold maxLen; decide))
  rw [k_new] at HN
  clear hsz hrc
  go_enter Tryd.func7, Tryd.ntmps7
  go_wp2_with fail
  refine HN.out.mono ?_
  rintro e w1 ⟨hb1, p, F, rfl, hp, hF, hs, hl⟩
  have HB1 := Lib.hid (((Below.refl _ w).alloc (Nat.le_refl _) _).trans (hb1.mono (by simp)))
  obtain ⟨hg, _⟩ := new_good k_new
  have ht := hg.tot
  obtain ⟨z1, z2, z3, z4, z5⟩ := k_small
  obtain ⟨a1, a2, a3, a4, a5, a6, a7⟩ := k1
  obtain ⟨b1, b2⟩ := k2
  obtain ⟨c1, c2, c3, c4, c5⟩ := k3
  have hj := join_lca hp hs ht lB lC tB tC tA 1 (by unfold maxLen; omega) (by unfold maxLen; omega) a1 a2 a3 a4 a5 a6 a7 b1 b2 (by decide)
  rw [k4] at hj
  have HJ := Lib.hid hj
  have HJ2 := Lib.hid (fun (w' : World) (hb : Below w1.heap.size w1 w') => join_none (hp.below hb) hs ht isI isN (by unfold maxLen; omega) (by unfold maxLen; omega) c1 c2 c3 c4)
  have HS3 := Lib.hid (fun (w' : World) (hb : Below w1.heap.size w1 w') => sub10 (hp.below hb) hs ht lB ofObj (by unfold maxLen; omega) (by unfold maxLen; omega))
  rw [c5] at HS3
  obtain ⟨hpb, rfl⟩ := hp.p
  clear hb1 hp hF hs hl hg ht a1 a2 a3 a4 a5 a6 a7 b1 b2 c1 c2 c3 c4 c5 hj z1 z2 z3 z4 z5
  go_wp2_with fail
  refine HJ.out.mono ?_
  rintro e w2 ⟨rfl, hb2⟩
  have HB2 := Lib.hid hb2
  clear hb2
  go_wp2_with fail
  refine (HJ2.out w2 HB2.out).mono ?_
  rintro e w3 ⟨rfl, hb3⟩
  have HB3 := Lib.hid (HB2.out.trans (hb3.mono HB2.out.size))
  clear hb3
  go_wp2_with fail
  refine (HS3.out w3 HB3.out).mono ?_
  rintro e w4 ⟨rfl, hb4⟩
  have HB4 := Lib.hid (HB3.out.trans (hb4.mono HB3.out.size))
  clear hb4
  go_wp2
  go_ret
  exact ⟨rfl, HB1.out.trans (HB4.out.mono HB1.out.size)⟩
end Go.Proofs.YtefiliomfiomfadDoor
