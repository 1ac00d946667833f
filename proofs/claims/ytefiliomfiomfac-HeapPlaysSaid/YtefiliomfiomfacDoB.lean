/- The law's do: Set, Send, nothing. -/
import Derived.Test.YtefiliomfiomfacDo
import Derived.Deep.RegionHeld3
namespace Go.Proofs.Ytefiliomfiomfac
open Go.RowKit Go.Maps

section
variable {B : Nat} {w : World} {p q : Value} {T : List Th} {most N : Nat}
set_option maxHeartbeats 1000000 in
theorem do_set4 (h : B1 B w p q T T most N) (id n at_ v a : Int) (s : ByteArray) (wh : Bool) (ha : (Lit.int .i64 a).wf = true) :
    Calls Try.prog 21 #[p, q, .agg #[.int .i64 (4), .int .i64 id, .int .i64 n, .string s, .int .i64 at_, .int .i64 v, .bool wh], .int .i64 a] w (DoP B w p q (setF T a n v).2 most (N + 1)) := by
  have HB0 : Hid (Below B w (w.alloc (.cells #[.int .i64 (4), .int .i64 id, .int .i64 n, .string s, .int .i64 at_, .int .i64 v, .bool wh] 45)).drew) := Lib.hid ((Below.refl B w).alloc h.1 _).drew
  have hx := (h.box #[.int .i64 (4), .int .i64 id, .int .i64 n, .string s, .int .i64 at_, .int .i64 v, .bool wh]).drew
  have HCALL := Lib.hid (setB hx a n v ha)
  have HREF := Lib.hid (fun (w' : World) (T1 : List Th) (hx : B2 B w.heap.size #[.int .i64 (4), .int .i64 id, .int .i64 n, .string s, .int .i64 at_, .int .i64 v, .bool wh] w' p q T1 T most (N + 1)) => setRB hx a n v)
  generalize setF T a n v = res at *
  obtain ⟨r1, r2⟩ := res
  have c2 : (w.alloc (.cells #[.int .i64 (4), .int .i64 id, .int .i64 n, .string s, .int .i64 at_, .int .i64 v, .bool wh] 45)).drew.cell? ⟨w.heap.size, 2, none⟩ = some (.int .i64 n) := hx.cell 2
  have c5 : (w.alloc (.cells #[.int .i64 (4), .int .i64 id, .int .i64 n, .string s, .int .i64 at_, .int .i64 v, .bool wh] 45)).drew.cell? ⟨w.heap.size, 5, none⟩ = some (.int .i64 v) := hx.cell 5
  obtain ⟨⟨ad, rfl⟩, ⟨R, rfl⟩⟩ := h.p
  clear h hx
  go_enter Try.func21, Try.ntmps21
  go_wp2_with fail
  go_region_held3 (fun w' => w'.cell? ⟨w.heap.size, 2, none⟩ = some (.int .i64 n) ∧ w'.cell? ⟨w.heap.size, 5, none⟩ = some (.int .i64 v))
    (first | exact ⟨c2, c5⟩ | exact ⟨by assumption, by assumption⟩)
    (first
      | (go_at_call 14; refine HCALL.out.mono ?_; rintro e w1 ⟨rfl, h1, hb1⟩; have HB1 := Lib.hid (HB0.out.trans hb1); have HCALL2 := Lib.hid (HREF.out w1 _ h1); have d2 : w1.cell? ⟨w.heap.size, 2, none⟩ = some (.int .i64 n) := h1.cell 2; have d5 : w1.cell? ⟨w.heap.size, 5, none⟩ = some (.int .i64 v) := h1.cell 5; clear h1 hb1)
      | (go_at_call 38; refine HCALL2.out.mono ?_; rintro e w2 ⟨rfl, h2, hb2⟩; have HB2 := Lib.hid (HB1.out.trans hb2); have H2 := Lib.hid h2.one; have e2 : w2.cell? ⟨w.heap.size, 2, none⟩ = some (.int .i64 n) := h2.cell 2; have e5 : w2.cell? ⟨w.heap.size, 5, none⟩ = some (.int .i64 v) := h2.cell 5; clear h2 hb2))
  go_wp2
  go_ret
  exact ⟨by simp, H2.out, HB2.out⟩
set_option maxHeartbeats 1000000 in
theorem do_set5 (h : B1 B w p q T T most N) (id n at_ v a : Int) (s : ByteArray) (wh : Bool) (ha : (Lit.int .i64 a).wf = true) :
    Calls Try.prog 21 #[p, q, .agg #[.int .i64 (5), .int .i64 id, .int .i64 n, .string s, .int .i64 at_, .int .i64 v, .bool wh], .int .i64 a] w (DoP B w p q (setF T a n v).2 most (N + 1)) := by
  have HB0 : Hid (Below B w (w.alloc (.cells #[.int .i64 (5), .int .i64 id, .int .i64 n, .string s, .int .i64 at_, .int .i64 v, .bool wh] 45)).drew) := Lib.hid ((Below.refl B w).alloc h.1 _).drew
  have hx := (h.box #[.int .i64 (5), .int .i64 id, .int .i64 n, .string s, .int .i64 at_, .int .i64 v, .bool wh]).drew
  have HCALL := Lib.hid (setB hx a n v ha)
  have HREF := Lib.hid (fun (w' : World) (T1 : List Th) (hx : B2 B w.heap.size #[.int .i64 (5), .int .i64 id, .int .i64 n, .string s, .int .i64 at_, .int .i64 v, .bool wh] w' p q T1 T most (N + 1)) => setRB hx a n v)
  generalize setF T a n v = res at *
  obtain ⟨r1, r2⟩ := res
  have c2 : (w.alloc (.cells #[.int .i64 (5), .int .i64 id, .int .i64 n, .string s, .int .i64 at_, .int .i64 v, .bool wh] 45)).drew.cell? ⟨w.heap.size, 2, none⟩ = some (.int .i64 n) := hx.cell 2
  have c5 : (w.alloc (.cells #[.int .i64 (5), .int .i64 id, .int .i64 n, .string s, .int .i64 at_, .int .i64 v, .bool wh] 45)).drew.cell? ⟨w.heap.size, 5, none⟩ = some (.int .i64 v) := hx.cell 5
  obtain ⟨⟨ad, rfl⟩, ⟨R, rfl⟩⟩ := h.p
  clear h hx
  go_enter Try.func21, Try.ntmps21
  go_wp2_with fail
  go_region_held3 (fun w' => w'.cell? ⟨w.heap.size, 2, none⟩ = some (.int .i64 n) ∧ w'.cell? ⟨w.heap.size, 5, none⟩ = some (.int .i64 v))
    (first | exact ⟨c2, c5⟩ | exact ⟨by assumption, by assumption⟩)
    (first
      | (go_at_call 14; refine HCALL.out.mono ?_; rintro e w1 ⟨rfl, h1, hb1⟩; have HB1 := Lib.hid (HB0.out.trans hb1); have HCALL2 := Lib.hid (HREF.out w1 _ h1); have d2 : w1.cell? ⟨w.heap.size, 2, none⟩ = some (.int .i64 n) := h1.cell 2; have d5 : w1.cell? ⟨w.heap.size, 5, none⟩ = some (.int .i64 v) := h1.cell 5; clear h1 hb1)
      | (go_at_call 38; refine HCALL2.out.mono ?_; rintro e w2 ⟨rfl, h2, hb2⟩; have HB2 := Lib.hid (HB1.out.trans hb2); have H2 := Lib.hid h2.one; have e2 : w2.cell? ⟨w.heap.size, 2, none⟩ = some (.int .i64 n) := h2.cell 2; have e5 : w2.cell? ⟨w.heap.size, 5, none⟩ = some (.int .i64 v) := h2.cell 5; clear h2 hb2))
  go_wp2
  go_ret
  exact ⟨by simp, H2.out, HB2.out⟩
set_option maxHeartbeats 1000000 in
theorem do_send (h : B1 B w p q T T most N) (id n at_ v a : Int) (s : ByteArray) (wh : Bool) (hN : N ≤ 1048576) (ha : (Lit.int .i64 a).wf = true) (hv : (Lit.int .i64 v).wf = true) :
    Calls Try.prog 21 #[p, q, .agg #[.int .i64 (6), .int .i64 id, .int .i64 n, .string s, .int .i64 at_, .int .i64 v, .bool wh], .int .i64 a] w (DoP B w p q (sendF T a v).2 most (N + 1)) := by
  have HB0 : Hid (Below B w (w.alloc (.cells #[.int .i64 (6), .int .i64 id, .int .i64 n, .string s, .int .i64 at_, .int .i64 v, .bool wh] 45)).drew) := Lib.hid ((Below.refl B w).alloc h.1 _).drew
  have hx := (h.box #[.int .i64 (6), .int .i64 id, .int .i64 n, .string s, .int .i64 at_, .int .i64 v, .bool wh]).drew
  have HCALL := Lib.hid (sendB hx hN a v ha hv)
  have HREF := Lib.hid (fun (w' : World) (T1 : List Th) (hx : B2 B w.heap.size #[.int .i64 (6), .int .i64 id, .int .i64 n, .string s, .int .i64 at_, .int .i64 v, .bool wh] w' p q T1 T most (N + 1)) => sendRB hx a v)
  generalize sendF T a v = res at *
  obtain ⟨r1, r2⟩ := res
  have c5 : (w.alloc (.cells #[.int .i64 (6), .int .i64 id, .int .i64 n, .string s, .int .i64 at_, .int .i64 v, .bool wh] 45)).drew.cell? ⟨w.heap.size, 5, none⟩ = some (.int .i64 v) := hx.cell 5
  obtain ⟨⟨ad, rfl⟩, ⟨R, rfl⟩⟩ := h.p
  clear h hx
  go_enter Try.func21, Try.ntmps21
  go_wp2_with fail
  go_region_held3 (fun w' => w'.cell? ⟨w.heap.size, 5, none⟩ = some (.int .i64 v))
    (first | exact c5 | assumption)
    (first
      | (go_at_call 31; refine HCALL.out.mono ?_; rintro e w1 ⟨rfl, h1, hb1⟩; have HB1 := Lib.hid (HB0.out.trans hb1); have HCALL2 := Lib.hid (HREF.out w1 _ h1); have d5 : w1.cell? ⟨w.heap.size, 5, none⟩ = some (.int .i64 v) := h1.cell 5; clear h1 hb1)
      | (go_at_call 39; refine HCALL2.out.mono ?_; rintro e w2 ⟨rfl, h2, hb2⟩; have HB2 := Lib.hid (HB1.out.trans hb2); have H2 := Lib.hid h2.one; have e5 : w2.cell? ⟨w.heap.size, 5, none⟩ = some (.int .i64 v) := h2.cell 5; clear h2 hb2))
  go_wp2
  go_ret
  exact ⟨by simp, H2.out, HB2.out⟩
theorem do_none (h : B1 B w p q T T most N) (kd id n at_ v a : Int) (s : ByteArray) (wh : Bool) (hk : kd < 0 ∨ 6 < kd) :
    Calls Try.prog 21 #[p, q, .agg #[.int .i64 kd, .int .i64 id, .int .i64 n, .string s, .int .i64 at_, .int .i64 v, .bool wh], .int .i64 a] w (DoP B w p q T most (N + 1)) := by
  have e0 : (kd == 0) = false := by simp; omega
  have e1 : (kd == 1) = false := by simp; omega
  have e2 : (kd == 2) = false := by simp; omega
  have e3 : (kd == 3) = false := by simp; omega
  have e4 : (kd == 4) = false := by simp; omega
  have e5 : (kd == 5) = false := by simp; omega
  have e6 : (kd == 6) = false := by simp; omega
  have HB0 : Hid (Below B w (w.alloc (.cells #[.int .i64 kd, .int .i64 id, .int .i64 n, .string s, .int .i64 at_, .int .i64 v, .bool wh] 45))) := Lib.hid ((Below.refl B w).alloc h.1 _)
  have HX := Lib.hid (h.box #[.int .i64 kd, .int .i64 id, .int .i64 n, .string s, .int .i64 at_, .int .i64 v, .bool wh]).one.more
  obtain ⟨⟨ad, rfl⟩, ⟨R, rfl⟩⟩ := h.p
  clear h hk
  go_enter Try.func21, Try.ntmps21
  go_wp2
  go_ret
  exact ⟨rfl, HX.out, HB0.out⟩
theorem do21 (h : B1 B w p q T T most N) (hN : N ≤ 1048576) (x : ActV) (a : Int) (ha : (Lit.int .i64 a).wf = true) (hv : (Lit.int .i64 x.v).wf = true) :
    Calls Try.prog 21 #[p, q, actV x, .int .i64 a] w (DoP B w p q (doF T most x a) most (N + 1)) := by
  obtain ⟨kd, id, n, s, at_, v, wh⟩ := x
  unfold actV doF
  simp only at hv ⊢
  by_cases e0 : kd = 0
  · subst e0; rw [if_pos (.inl rfl)]; exact do_thing0 h hN id n at_ v a s wh
  by_cases e1 : kd = 1
  · subst e1; rw [if_pos (.inr rfl)]; exact do_thing1 h hN id n at_ v a s wh
  rw [if_neg (by omega)]
  by_cases e2 : kd = 2
  · subst e2; rw [if_pos rfl]; exact do_array h hN id n at_ v a s wh
  rw [if_neg e2]
  by_cases e3 : kd = 3
  · subst e3; rw [if_pos rfl]; exact do_text h hN id n at_ v a s wh
  rw [if_neg e3]
  by_cases e4 : kd = 4
  · subst e4; rw [if_pos (.inl rfl)]; exact do_set4 h id n at_ v a s wh ha
  by_cases e5 : kd = 5
  · subst e5; rw [if_pos (.inr rfl)]; exact do_set5 h id n at_ v a s wh ha
  rw [if_neg (by omega)]
  by_cases e6 : kd = 6
  · subst e6; rw [if_pos rfl]; exact do_send h id n at_ v a s wh hN ha hv
  rw [if_neg e6]
  exact do_none h kd id n at_ v a s wh (by omega)
end
end Go.Proofs.Ytefiliomfiomfac
