/- The law's do. -/
import Derived.Test.YtefiliomfiomfacBoth
namespace Go.Proofs.Ytefiliomfiomfac
open Go.RowKit Go.Maps

/-- The things behind an act. -/
def doF (T : List Th) (most : Nat) (x : ActV) (a : Int) : List Th :=
  if x.kind = 0 ∨ x.kind = 1 then (thingF T most x.id x.n).2.2 else if x.kind = 2 then (arrayF T most x.id x.n).2.2 else if x.kind = 3 then (textF T most x.id x.s.data.toList).2.2
  else if x.kind = 4 ∨ x.kind = 5 then (setF T a x.n x.v).2 else if x.kind = 6 then (sendF T a x.v).2 else T
def DoP (B : Nat) (w : World) (p q : Value) (T : List Th) (most N : Nat) (e : Ending) (w' : World) : Prop := e = .returned (.bool true) ∧ B1 B w' p q T T most N ∧ Below B w w'
theorem B1.more {B : Nat} {w : World} {p q : Value} {T1 T2 : List Th} {most N : Nat} (h : B1 B w p q T1 T2 most N) : B1 B w p q T1 T2 most (N + 1) := by
  obtain ⟨h0, F, G, L, h1, h⟩ := h
  exact ⟨h0, F, G, L, h1.mono, h⟩
section
variable {B : Nat} {w : World} {p q : Value} {T : List Th} {most N : Nat}
set_option maxHeartbeats 1000000 in
theorem do_thing0 (h : B1 B w p q T T most N) (hN : N ≤ 1048576) (id n at_ v a : Int) (s : ByteArray) (wh : Bool) :
    Calls Try.prog 21 #[p, q, .agg #[.int .i64 (0), .int .i64 id, .int .i64 n, .string s, .int .i64 at_, .int .i64 v, .bool wh], .int .i64 a] w (DoP B w p q (thingF T most id n).2.2 most (N + 1)) := by
  have HX := Lib.hid (h.box #[.int .i64 (0), .int .i64 id, .int .i64 n, .string s, .int .i64 at_, .int .i64 v, .bool wh])
  have HB0 : Hid (Below B w (w.alloc (.cells #[.int .i64 (0), .int .i64 id, .int .i64 n, .string s, .int .i64 at_, .int .i64 v, .bool wh] 45))) := Lib.hid ((Below.refl B w).alloc h.1 _)
  have HCALL := Lib.hid (thingB HX.out hN id n)
  have HREF := Lib.hid (fun (w' : World) (T1 : List Th) (hx : B2 B w.heap.size #[.int .i64 (0), .int .i64 id, .int .i64 n, .string s, .int .i64 at_, .int .i64 v, .bool wh] w' p q T1 T most (N + 1)) => thingRB hx id n)
  generalize thingF T most id n = res at *
  obtain ⟨r1, r2, r3⟩ := res
  obtain ⟨⟨ad, rfl⟩, ⟨R, rfl⟩⟩ := h.p
  clear h HX
  go_enter Try.func21, Try.ntmps21
  go_wp2_with fail
  refine HCALL.out.mono ?_
  rintro e w1 ⟨rfl, h1, hb1⟩
  have HB1 := Lib.hid (HB0.out.trans hb1)
  have c1 : w1.cell? ⟨w.heap.size, 1, none⟩ = some (.int .i64 id) := h1.cell 1
  have c2 : w1.cell? ⟨w.heap.size, 2, none⟩ = some (.int .i64 n) := h1.cell 2
  have HCALL2 := Lib.hid (HREF.out w1 _ h1)
  clear h1 hb1
  go_wp2_with fail
  refine HCALL2.out.mono ?_
  rintro e w2 ⟨rfl, h2, hb2⟩
  have HB2 := Lib.hid (HB1.out.trans hb2)
  have H2 := Lib.hid h2.one
  clear h2 hb2 c1 c2
  go_wp2
  go_ret
  exact ⟨rfl, H2.out, HB2.out⟩
set_option maxHeartbeats 1000000 in
theorem do_thing1 (h : B1 B w p q T T most N) (hN : N ≤ 1048576) (id n at_ v a : Int) (s : ByteArray) (wh : Bool) :
    Calls Try.prog 21 #[p, q, .agg #[.int .i64 (1), .int .i64 id, .int .i64 n, .string s, .int .i64 at_, .int .i64 v, .bool wh], .int .i64 a] w (DoP B w p q (thingF T most id n).2.2 most (N + 1)) := by
  have HX := Lib.hid (h.box #[.int .i64 (1), .int .i64 id, .int .i64 n, .string s, .int .i64 at_, .int .i64 v, .bool wh])
  have HB0 : Hid (Below B w (w.alloc (.cells #[.int .i64 (1), .int .i64 id, .int .i64 n, .string s, .int .i64 at_, .int .i64 v, .bool wh] 45))) := Lib.hid ((Below.refl B w).alloc h.1 _)
  have HCALL := Lib.hid (thingB HX.out hN id n)
  have HREF := Lib.hid (fun (w' : World) (T1 : List Th) (hx : B2 B w.heap.size #[.int .i64 (1), .int .i64 id, .int .i64 n, .string s, .int .i64 at_, .int .i64 v, .bool wh] w' p q T1 T most (N + 1)) => thingRB hx id n)
  generalize thingF T most id n = res at *
  obtain ⟨r1, r2, r3⟩ := res
  obtain ⟨⟨ad, rfl⟩, ⟨R, rfl⟩⟩ := h.p
  clear h HX
  go_enter Try.func21, Try.ntmps21
  go_wp2_with fail
  refine HCALL.out.mono ?_
  rintro e w1 ⟨rfl, h1, hb1⟩
  have HB1 := Lib.hid (HB0.out.trans hb1)
  have c1 : w1.cell? ⟨w.heap.size, 1, none⟩ = some (.int .i64 id) := h1.cell 1
  have c2 : w1.cell? ⟨w.heap.size, 2, none⟩ = some (.int .i64 n) := h1.cell 2
  have HCALL2 := Lib.hid (HREF.out w1 _ h1)
  clear h1 hb1
  go_wp2_with fail
  refine HCALL2.out.mono ?_
  rintro e w2 ⟨rfl, h2, hb2⟩
  have HB2 := Lib.hid (HB1.out.trans hb2)
  have H2 := Lib.hid h2.one
  clear h2 hb2 c1 c2
  go_wp2
  go_ret
  exact ⟨rfl, H2.out, HB2.out⟩
set_option maxHeartbeats 1000000 in
theorem do_array (h : B1 B w p q T T most N) (hN : N ≤ 1048576) (id n at_ v a : Int) (s : ByteArray) (wh : Bool) :
    Calls Try.prog 21 #[p, q, .agg #[.int .i64 (2), .int .i64 id, .int .i64 n, .string s, .int .i64 at_, .int .i64 v, .bool wh], .int .i64 a] w (DoP B w p q (arrayF T most id n).2.2 most (N + 1)) := by
  have HX := Lib.hid (h.box #[.int .i64 (2), .int .i64 id, .int .i64 n, .string s, .int .i64 at_, .int .i64 v, .bool wh])
  have HB0 : Hid (Below B w (w.alloc (.cells #[.int .i64 (2), .int .i64 id, .int .i64 n, .string s, .int .i64 at_, .int .i64 v, .bool wh] 45))) := Lib.hid ((Below.refl B w).alloc h.1 _)
  have HCALL := Lib.hid (arrayB HX.out hN id n)
  have HREF := Lib.hid (fun (w' : World) (T1 : List Th) (hx : B2 B w.heap.size #[.int .i64 (2), .int .i64 id, .int .i64 n, .string s, .int .i64 at_, .int .i64 v, .bool wh] w' p q T1 T most (N + 1)) => arrayRB hx id n)
  generalize arrayF T most id n = res at *
  obtain ⟨r1, r2, r3⟩ := res
  obtain ⟨⟨ad, rfl⟩, ⟨R, rfl⟩⟩ := h.p
  clear h HX
  go_enter Try.func21, Try.ntmps21
  go_wp2_with fail
  refine HCALL.out.mono ?_
  rintro e w1 ⟨rfl, h1, hb1⟩
  have HB1 := Lib.hid (HB0.out.trans hb1)
  have c1 : w1.cell? ⟨w.heap.size, 1, none⟩ = some (.int .i64 id) := h1.cell 1
  have c2 : w1.cell? ⟨w.heap.size, 2, none⟩ = some (.int .i64 n) := h1.cell 2
  have HCALL2 := Lib.hid (HREF.out w1 _ h1)
  clear h1 hb1
  go_wp2_with fail
  refine HCALL2.out.mono ?_
  rintro e w2 ⟨rfl, h2, hb2⟩
  have HB2 := Lib.hid (HB1.out.trans hb2)
  have H2 := Lib.hid h2.one
  clear h2 hb2 c1 c2
  go_wp2
  go_ret
  exact ⟨rfl, H2.out, HB2.out⟩
set_option maxHeartbeats 1000000 in
theorem do_text (h : B1 B w p q T T most N) (hN : N ≤ 1048576) (id n at_ v a : Int) (s : ByteArray) (wh : Bool) :
    Calls Try.prog 21 #[p, q, .agg #[.int .i64 (3), .int .i64 id, .int .i64 n, .string s, .int .i64 at_, .int .i64 v, .bool wh], .int .i64 a] w (DoP B w p q (textF T most id s.data.toList).2.2 most (N + 1)) := by
  have HX := Lib.hid (h.box #[.int .i64 (3), .int .i64 id, .int .i64 n, .string s, .int .i64 at_, .int .i64 v, .bool wh])
  have HB0 : Hid (Below B w (w.alloc (.cells #[.int .i64 (3), .int .i64 id, .int .i64 n, .string s, .int .i64 at_, .int .i64 v, .bool wh] 45))) := Lib.hid ((Below.refl B w).alloc h.1 _)
  have HCALL := Lib.hid (textB HX.out hN id s)
  have HREF := Lib.hid (fun (w' : World) (T1 : List Th) (hx : B2 B w.heap.size #[.int .i64 (3), .int .i64 id, .int .i64 n, .string s, .int .i64 at_, .int .i64 v, .bool wh] w' p q T1 T most (N + 1)) => textRB hx id s)
  generalize textF T most id s.data.toList = res at *
  obtain ⟨r1, r2, r3⟩ := res
  obtain ⟨⟨ad, rfl⟩, ⟨R, rfl⟩⟩ := h.p
  clear h HX
  go_enter Try.func21, Try.ntmps21
  go_wp2_with fail
  refine HCALL.out.mono ?_
  rintro e w1 ⟨rfl, h1, hb1⟩
  have HB1 := Lib.hid (HB0.out.trans hb1)
  have c1 : w1.cell? ⟨w.heap.size, 1, none⟩ = some (.int .i64 id) := h1.cell 1
  have c3 : w1.cell? ⟨w.heap.size, 3, none⟩ = some (.string s) := h1.cell 3
  have HCALL2 := Lib.hid (HREF.out w1 _ h1)
  clear h1 hb1
  go_wp2_with fail
  refine HCALL2.out.mono ?_
  rintro e w2 ⟨rfl, h2, hb2⟩
  have HB2 := Lib.hid (HB1.out.trans hb2)
  have H2 := Lib.hid h2.one
  clear h2 hb2 c1 c3
  go_wp2
  go_ret
  exact ⟨rfl, H2.out, HB2.out⟩
end
end Go.Proofs.Ytefiliomfiomfac
