/- hier's Join, where the law's fixed calls come. -/
import Derived.Test.YtefiliomfiomfadDoorSub
namespace Go.Proofs.YtefiliomfiomfadDoor
open Go.RowKit Go.Maps

theorem join_nil (a b : BA) (w : World) : Calls Tryd.prog 12 #[.pointer none, .string a, .string b] w fun e w' => e = .returned (.tuple #[.string ⟨#[]⟩, .bool false]) ∧ Below w.heap.size w w' := by
  go_enter Tryd.func12, Tryd.ntmps12
  go_wp2_with fail
  refine (may_nil _ _).mono ?_
  rintro e w1 ⟨rfl, hb⟩
  have HB := Lib.hid (((Below.refl _ w).alloc (Nat.le_refl _) _).trans (hb.mono (by simp)))
  clear hb
  go_wp2
  go_ret2
  exact ⟨rfl, HB.out⟩
def ofF (m : BA) : BA := (⟨#[76]⟩ : ByteArray) ++ m ++ (⟨#[59]⟩ : ByteArray)
theorem of29g (m : BA) (hm : m.size ≤ 100) (w : World) : Calls Tryd.prog 29 #[.string m] w fun e w' => e = .returned (.string (ofF m)) ∧ w' = w := by
  have h1 : 1 + m.size ≤ 9223372036854775807 := by omega
  have h2 : ((⟨#[76]⟩ : ByteArray) ++ m).size + 1 ≤ 9223372036854775807 := by
    rw [ByteArray.size_append]
    show 1 + m.size + 1 ≤ _
    omega
  go_enter Tryd.func29, Tryd.ntmps29
  go_wp2
  go_ret
  exact ⟨rfl, rfl⟩
theorem RS.below {w w' : World} {v : Value} {l : List BA} (h : RS w v l) (hb : Below w.heap.size w w') : RS w' v l := h.chg (Chg.of_below (F := fun _ => False) hb) (fun _ _ e => e)
theorem join35 (o : Nat) (v : Value) (all : List BA) (w : World) (c0 : w.cell? ⟨o, 0, none⟩ = some v) (hl : RS w v all) (hlen : all.length ≤ 1048576) (s : BA) :
    Calls Tryd.prog 35 #[.string s, .pointer (some ⟨o, 0, none⟩)] w fun e w' => e = .returned (.bool (inF all s)) ∧ Below w.heap.size w w' := by
  have HC := Lib.hid (contains31 all v s w hl hlen)
  obtain ⟨va, vc, rfl, _⟩ := hl
  generalize inF all s = r at *
  go_enter Tryd.func35, Tryd.ntmps35
  go_wp2_with fail
  refine HC.out.mono ?_
  rintro e w1 ⟨rfl, rfl⟩
  go_wp2
  go_ret
  exact ⟨rfl, Below.refl _ _⟩
set_option maxRecDepth 100000 in
set_option maxHeartbeats 2000000 in
theorem join_none {w : World} {F : Nat → Prop} {p : Value} {H : List (BA × BA)} {N : Nat} (h : HP w F p H N) (hH : sizes H) (hT : Tot H) (a b : BA) (ha : a.size ≤ maxLen) (hb : b.size ≤ maxLen)
    (hm : (mayF H a && mayF H b) = true) (h1 : subF H a b = false) (h2 : subF H b a = false) (h3 : refF a = false) :
    Calls Tryd.prog 12 #[p, .string a, .string b] w fun e w' => e = .returned (.tuple #[.string ⟨#[]⟩, .bool false]) ∧ Below w.heap.size w w' := by
  have HM := Lib.hid (may27 (h.chg (Chg.alloc (fun _ => False) w (.cells #[.string a, .string b] 9)) (fun _ _ e => e)) [a, b] _ (rs_two w a b) (by simp) (by intro s hs; simp at hs; rcases hs with rfl | rfl <;> assumption))
  have hm2 : [a, b].all (mayF H) = true := by rw [← hm]; simp
  rw [hm2] at HM
  have HS1 := Lib.hid (fun (w' : World) (hbl : Below w.heap.size w w') => sub10 (h.below hbl) hH hT a b ha hb)
  have HS2 := Lib.hid (fun (w' : World) (hbl : Below w.heap.size w w') => sub10 (h.below hbl) hH hT b a hb ha)
  have HRA := Lib.hid (fun w => ref28 a ha w)
  rw [h1] at HS1
  rw [h2] at HS2
  rw [h3] at HRA
  obtain ⟨hp, rfl⟩ := h.p
  clear h hH hT ha hb hm hm2 h1 h2 h3
  go_enter Tryd.func12, Tryd.ntmps12
  go_wp2_with fail
  refine HM.out.mono ?_
  rintro e w1 ⟨rfl, hb1⟩
  have HB1 := Lib.hid (((Below.refl _ w).alloc (Nat.le_refl _) _).trans (hb1.mono (by simp)))
  clear hb1
  go_wp2_with fail
  refine (HS1.out w1 HB1.out).mono ?_
  rintro e w2 ⟨rfl, hb2⟩
  have HB2 := Lib.hid (HB1.out.trans (hb2.mono HB1.out.size))
  clear hb2
  go_wp2_with fail
  refine (HS2.out w2 HB2.out).mono ?_
  rintro e w3 ⟨rfl, hb3⟩
  have HB3 := Lib.hid (HB2.out.trans (hb3.mono HB2.out.size))
  clear hb3
  go_wp2_with fail
  refine (HRA.out w3).mono ?_
  rintro e w4 ⟨rfl, hb4⟩
  have HB4 := Lib.hid (HB3.out.trans (hb4.mono HB3.out.size))
  clear hb4
  go_wp2
  go_ret2
  exact ⟨rfl, HB4.out⟩
set_option maxRecDepth 100000 in
set_option maxHeartbeats 4000000 in
theorem join_lca {w : World} {F : Nat → Prop} {p : Value} {H : List (BA × BA)} {N : Nat} (h : HP w F p H N) (hH : sizes H) (hT : Tot H) (a b x y m : BA) (i : Nat) (ha : a.size ≤ maxLen) (hb : b.size ≤ maxLen)
    (hm : (mayF H a && mayF H b) = true) (h1 : subF H a b = false) (h2 : subF H b a = false) (h3 : refF a = true) (h4 : refF b = true) (h5 : classF a = (x, true)) (h6 : classF b = (y, true))
    (h7 : idxN (fun s => inF (chainF H y) s) (chainF H x) 0 = (i : Int)) (h8 : ∃ hi : i < (chainF H x).length, (chainF H x)[i] = m) (h9 : m.size ≤ 100) :
    Calls Tryd.prog 12 #[p, .string a, .string b] w fun e w' => e = .returned (.tuple #[.string (ofF m), .bool true]) ∧ Below w.heap.size w w' := by
  have HM := Lib.hid (may27 (h.chg (Chg.alloc (fun _ => False) w (.cells #[.string a, .string b] 9)) (fun _ _ e => e)) [a, b] _ (rs_two w a b) (by simp) (by intro s hs; simp at hs; rcases hs with rfl | rfl <;> assumption))
  have hm2 : [a, b].all (mayF H) = true := by rw [← hm]; simp
  rw [hm2] at HM
  have HS1 := Lib.hid (fun (w' : World) (hbl : Below w.heap.size w w') => sub10 (h.below hbl) hH hT a b ha hb)
  have HS2 := Lib.hid (fun (w' : World) (hbl : Below w.heap.size w w') => sub10 (h.below hbl) hH hT b a hb ha)
  have HRA := Lib.hid (fun w => ref28 a ha w)
  have HRB := Lib.hid (fun w => ref28 b hb w)
  have HCA := Lib.hid (fun w => class30 a ha w)
  have HCB := Lib.hid (fun w => class30 b hb w)
  have zx := (classF_spec ha h5).2
  have zy := (classF_spec hb h6).2
  have HX := Lib.hid (fun (w' : World) (hbl : Below w.heap.size w w') => chain21 (h.below hbl) hH x (by omega) 100 (by omega) _ (hT x).1)
  have HY := Lib.hid (fun (w' : World) (hbl : Below w.heap.size w w') => chain21 (h.below hbl) hH y (by omega) 100 (by omega) _ (hT y).1)
  have HLX := Lib.hid (hT x).2
  have HLY := Lib.hid (hT y).2
  rw [h1] at HS1
  rw [h2] at HS2
  rw [h3] at HRA
  rw [h4] at HRB
  rw [h5] at HCA
  rw [h6] at HCB
  simp only at HCA HCB
  obtain ⟨hi, hm8⟩ := h8
  generalize chainF H x = lx at *
  generalize chainF H y = ly at *
  have HIX := Lib.hid h7
  have HOF := Lib.hid (fun w => of29g m h9 w)
  have HI : Hid (i < lx.length) := Lib.hid hi
  have H8 : Hid (∀ (w' : World) (v : Value), OS w' v lx → ∃ g c, v = .slice (some ⟨g, 0, none⟩) lx.length c ∧ w'.cell? ⟨g, i, none⟩ = some (.string m)) := Lib.hid fun w' v ho => by
    rcases ho.2 with ⟨_, hn⟩ | ⟨g, cap, cur, rfl, _, hg, hnc, _, _, ht⟩
    · have : lx.length = 0 := hn
      omega
    · refine ⟨g, cap, rfl, ?_⟩
      rw [cell_of_row w' g i cur 9 (0, 0) hg]
      have : (lx.map Value.string)[i]? = some (.string m) := by rw [List.getElem?_map, List.getElem?_eq_getElem hi, hm8]; rfl
      rw [← ht, List.getElem?_take, Nat.mul_one, if_pos hi] at this
      simpa using this
  obtain ⟨hp, rfl⟩ := h.p
  clear h hH hT ha hb hm hm2 h1 h2 h3 h4 h5 h6 h7 h9 zx zy hm8
  go_enter Tryd.func12, Tryd.ntmps12
  go_wp2_with fail
  refine HM.out.mono ?_
  rintro e w1 ⟨rfl, hb1⟩
  have HB1 := Lib.hid (((Below.refl _ w).alloc (Nat.le_refl _) _).trans (hb1.mono (by simp)))
  clear hb1
  go_wp2_with fail
  refine (HS1.out w1 HB1.out).mono ?_
  rintro e w2 ⟨rfl, hb2⟩
  have HB2 := Lib.hid (HB1.out.trans (hb2.mono HB1.out.size))
  clear hb2
  go_wp2_with fail
  refine (HS2.out w2 HB2.out).mono ?_
  rintro e w3 ⟨rfl, hb3⟩
  have HB3 := Lib.hid (HB2.out.trans (hb3.mono HB2.out.size))
  clear hb3
  go_wp2_with fail
  refine (HRA.out w3).mono ?_
  rintro e w4 ⟨rfl, hb4⟩
  have HB4 := Lib.hid (HB3.out.trans (hb4.mono HB3.out.size))
  clear hb4
  go_wp2_with fail
  refine (HRB.out w4).mono ?_
  rintro e w5 ⟨rfl, hb5⟩
  have HB5 := Lib.hid (HB4.out.trans (hb5.mono HB4.out.size))
  clear hb5
  go_wp2_with fail
  refine (HCA.out w5).mono ?_
  rintro e w6 ⟨rfl, hb6⟩
  have HB6 := Lib.hid (HB5.out.trans (hb6.mono HB5.out.size))
  clear hb6
  go_wp2_with fail
  refine (HCB.out w6).mono ?_
  rintro e w7 ⟨rfl, hb7⟩
  have HB7 := Lib.hid (HB6.out.trans (hb7.mono HB6.out.size))
  clear hb7
  go_wp2_with fail
  refine (HY.out w7 HB7.out).mono ?_
  rintro e w8 ⟨vy, rfl, hoy, hgy, hb8⟩
  have HB8 := Lib.hid (HB7.out.trans (hb8.mono HB7.out.size))
  obtain ⟨ay, cy, rfl⟩ := hoy.shape
  have HOY := Lib.hid ((hoy.al (.cells #[.slice ay ly.length cy] 40)).rs)
  have HBX := Lib.hid (HB8.out.alloc HB8.out.size (.cells #[.slice ay ly.length cy] 40))
  have HCE : Hid ((w8.alloc (.cells #[.slice ay ly.length cy] 40)).cell? ⟨w8.heap.size, 0, none⟩ = some (.slice ay ly.length cy)) := Lib.hid (by rw [World.cell?_alloc_mark]; rfl)
  have HLT : Hid (w8.heap.size < (w8.alloc (.cells #[.slice ay ly.length cy] 40)).heap.size) := Lib.hid (by simp)
  clear hoy hgy hb8
  go_wp2_with fail
  refine (HX.out _ HBX.out).mono ?_
  rintro e w9 ⟨vx, rfl, hox, hgx, hb9⟩
  have HB9 := Lib.hid (HBX.out.trans (hb9.mono HBX.out.size))
  have HOY9 := Lib.hid (RS.below HOY.out hb9)
  have hce9 := (hb9.cell (p := ⟨w8.heap.size, 0, none⟩) HLT.out).trans HCE.out
  have HCE9 := Lib.hid hce9
  have HLT9 : Hid (w8.heap.size < w9.heap.size) := Lib.hid (Nat.lt_of_lt_of_le HLT.out hb9.size)
  have HOX := Lib.hid hox
  clear hox hgx hb9 hce9
  have HJ := Lib.hid (index34_35 (fun s => inF ly s) (.pointer (some ⟨w8.heap.size, 0, none⟩)) lx vx w9 HOX.out.rs (by have := HLX.out; omega) (fun s _ w' hb => join35 _ _ ly w' ((hb.cell (p := ⟨w8.heap.size, 0, none⟩) HLT9.out).trans HCE9.out) (RS.below HOY9.out hb) (by have := HLY.out; omega) s))
  rw [HIX.out] at HJ
  obtain ⟨g, cx, hv, hcm⟩ := H8.out w9 vx HOX.out
  have hlt := HOX.out.lt g (by rw [hv]; rfl)
  subst hv
  clear hi
  go_wp2_with fail
  refine HJ.out.mono ?_
  rintro e w10 ⟨rfl, hb10⟩
  have hcm2 := (hb10.cell (p := ⟨g, i, none⟩) hlt).trans hcm
  have HB10 := Lib.hid (HB9.out.trans (hb10.mono HB9.out.size))
  clear hb10 hcm hlt
  have hi := HI.out
  have hln := HLX.out
  go_wp2_with fail
  refine (HOF.out w10).mono ?_
  rintro e w11 ⟨rfl, rfl⟩
  go_wp2
  go_ret2
  exact ⟨rfl, HB10.out⟩
end Go.Proofs.YtefiliomfiomfadDoor
