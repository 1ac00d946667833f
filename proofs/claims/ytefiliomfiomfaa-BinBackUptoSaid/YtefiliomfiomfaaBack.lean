/- bin.All; slices of numbers and of texts that came in; what is behind one another. -/
import Derived.Test.YtefiliomfiomfaaBulk
import Derived.Test.YtefiliomfiomfaaTexts
import Derived.SliceStrings
namespace Go.Proofs.Ytefiliomfiomfaa
open Go.RowKit Go.ChangeShapes Go.WideShapes Go.ChangeAt

/-- In the world w the slice v reads as the numbers l, each an int64. -/
def RdI (w : World) (v : Value) (l : List Int) : Prop :=
  (∀ x ∈ l, -9223372036854775808 ≤ x ∧ x ≤ 9223372036854775807) ∧
  ∃ a c, v = .slice a l.length c ∧ l.length ≤ c ∧ (l ≠ [] → ∃ b o, a = some ⟨b, o, none⟩ ∧ b < w.heap.size ∧ ∀ i (h : i < l.length), w.cell? ⟨b, o + i, none⟩ = some (.int .i64 (l[i]'h)))
/-- In the world w the slice v reads as the texts l. -/
def RdS (w : World) (v : Value) (l : List ByteArray) : Prop :=
  ∃ a c, v = .slice a l.length c ∧ l.length ≤ c ∧ (l ≠ [] → ∃ b o, a = some ⟨b, o, none⟩ ∧ b < w.heap.size ∧ ∀ i (h : i < l.length), w.cell? ⟨b, o + i, none⟩ = some (.string (l[i]'h)))
def tot : List ByteArray → Nat
  | [] => 0
  | s :: r => s.size + 1 + tot r
theorem RdI.below {w w' : World} {v : Value} {l : List Int} (h : RdI w v l) (hb : Below w.heap.size w w') : RdI w' v l := by
  obtain ⟨hr, a, c, h1, h2, h4⟩ := h
  refine ⟨hr, a, c, h1, h2, fun hl => ?_⟩
  obtain ⟨b, o, e, hlt, hc⟩ := h4 hl
  exact ⟨b, o, e, Nat.lt_of_lt_of_le hlt hb.size, fun i hi => (hb.cell (p := ⟨b, o + i, none⟩) hlt).trans (hc i hi)⟩
theorem RdS.below {w w' : World} {v : Value} {l : List ByteArray} (h : RdS w v l) (hb : Below w.heap.size w w') : RdS w' v l := by
  obtain ⟨a, c, h1, h2, h4⟩ := h
  refine ⟨a, c, h1, h2, fun hl => ?_⟩
  obtain ⟨b, o, e, hlt, hc⟩ := h4 hl
  exact ⟨b, o, e, Nat.lt_of_lt_of_le hlt hb.size, fun i hi => (hb.cell (p := ⟨b, o + i, none⟩) hlt).trans (hc i hi)⟩
theorem spot_none {W : World} {xb xo : Nat} {xs : Option Nat} {v : Value} (h : W.cell? ((⟨xb, xo, xs⟩ : Addr).add 0) = some v) : xs = none := by
  cases xs with
  | none => rfl
  | some y =>
    exfalso
    unfold World.cell? at h
    simp [Addr.add] at h
    split at h <;> simp_all
theorem arg_intsU {H : Type} {en : TypeId × Value → H} {W : World} {base : Nat} {spare : Nat → Bool} {held : Bool} {a : Option Addr} {len cap : Nat} {d : DataW H} {ps : List MemPlace}
    (h : DataW.Trod en Try.prog W base spare held 36 (.slice a len cap) d ps) : ∃ l : List Int, l.length = len ∧ RdI W (.slice a len cap) l ∧ len ≤ Rows.uptoBulk d := by
  obtain ⟨fuel, hf⟩ := h
  rcases open_ints Try.underlying36 Try.underlying2 (by kernel_rfl) hf with ⟨hcs, hx⟩ | ⟨x, l, c, zs, hcs, _, hl, _, hz, hx, hcell, hwf⟩
  · simp [Value.cells] at hcs
    obtain ⟨rfl, rfl, rfl⟩ := hcs
    exact ⟨[], rfl, ⟨(fun x hx => by cases hx), none, 0, rfl, by simp, fun h => absurd rfl h⟩, by omega⟩
  · simp [Value.cells] at hcs
    obtain ⟨rfl, rfl, rfl⟩ := hcs
    obtain ⟨hx, _⟩ := Prod.mk.inj hx
    subst hx
    have hl2 : len ≤ zs.length := by
      rw [hz]
      split
      · exact hl
      · exact Nat.le_refl _
    have h1 := length_le (lits (H := H) .i64 (zs.take len))
    have h2 : (lits (H := H) .i64 (zs.take len)).length = len := by simp [lits]; omega
    rw [h2] at h1
    have hlen : (zs.take len).length = len := by simp; omega
    refine ⟨zs.take len, hlen, ⟨?_, _, cap, by rw [hlen], by rw [hlen]; exact hl, fun hne => ?_⟩, by simp only [Rows.uptoBulk]; omega⟩
    · intro y hy
      exact wf64 (hwf y (List.mem_of_mem_take hy))
    · have hpos : 0 < len := by
        rcases Nat.eq_zero_or_pos len with h | h
        · subst h; simp at hne
        · exact h
      obtain ⟨xb, xo, xs⟩ := x
      have hc0 := hcell 0 (by omega)
      obtain rfl := spot_none hc0
      have hb := World.block_lt_of_cell? W _ hc0
      refine ⟨xb, xo, rfl, ?_, ?_⟩
      · have e : ((⟨xb, xo, none⟩ : Addr).add 0).block = xb := by unfold Addr.add; split <;> rfl
        rw [e] at hb
        exact hb
      · intro i hi
        rw [hlen] at hi
        have e : (⟨xb, xo, none⟩ : Addr).add i = ⟨xb, xo + i, none⟩ := by unfold Addr.add; split <;> simp_all
        have hc := hcell i (by omega)
        rw [e] at hc
        rw [hc, List.getElem_take, List.getD_eq_getElem?_getD, List.getElem?_eq_getElem (by omega)]
        rfl
theorem tot_strs {H : Type} (ss : List ByteArray) : Rows.uptoBulkAll (H := H) (strs ss) = tot ss := by
  induction ss with
  | nil => rfl
  | cons s r ih =>
    show Rows.uptoBulkAll (_ :: strs r) = _
    simp only [Rows.uptoBulkAll, Rows.uptoBulk, ih, tot]
    have : s.data.toList.length = s.size := by rw [Array.length_toList]; rfl
    omega
theorem arg_strsU {H : Type} {en : TypeId × Value → H} {W : World} {base : Nat} {spare : Nat → Bool} {held : Bool} {a : Option Addr} {len cap : Nat} {d : DataW H} {ps : List MemPlace}
    (h : DataW.Trod en Try.prog W base spare held 37 (.slice a len cap) d ps) : ∃ l : List ByteArray, l.length = len ∧ RdS W (.slice a len cap) l ∧ tot l ≤ Rows.uptoBulk d := by
  obtain ⟨fuel, hf⟩ := h
  rcases open_strings Try.underlying37 Try.underlying9 (by kernel_rfl) hf with ⟨hcs, hx⟩ | ⟨x, l, c, zs, hcs, _, hl, _, hz, hx, hcell, _⟩
  · simp [Value.cells] at hcs
    obtain ⟨rfl, rfl, rfl⟩ := hcs
    exact ⟨[], rfl, ⟨none, 0, rfl, by simp, fun h => absurd rfl h⟩, by simp [tot]⟩
  · simp [Value.cells] at hcs
    obtain ⟨rfl, rfl, rfl⟩ := hcs
    obtain ⟨hx, _⟩ := Prod.mk.inj hx
    subst hx
    have hl2 : len ≤ zs.length := by
      rw [hz]
      split
      · exact hl
      · exact Nat.le_refl _
    have hlen : (zs.take len).length = len := by simp; omega
    refine ⟨zs.take len, hlen, ⟨_, cap, by rw [hlen], by rw [hlen]; exact hl, fun hne => ?_⟩, by simp only [Rows.uptoBulk, tot_strs]; omega⟩
    have hpos : 0 < len := by
      rcases Nat.eq_zero_or_pos len with h | h
      · subst h; simp at hne
      · exact h
    obtain ⟨xb, xo, xs⟩ := x
    have hc0 := hcell 0 (by omega)
    obtain rfl := spot_none hc0
    have hb := World.block_lt_of_cell? W _ hc0
    refine ⟨xb, xo, rfl, ?_, ?_⟩
    · have e : ((⟨xb, xo, none⟩ : Addr).add 0).block = xb := by unfold Addr.add; split <;> rfl
      rw [e] at hb
      exact hb
    · intro i hi
      rw [hlen] at hi
      have e : (⟨xb, xo, none⟩ : Addr).add i = ⟨xb, xo + i, none⟩ := by unfold Addr.add; split <;> simp_all
      have hc := hcell i (by omega)
      rw [e] at hc
      rw [hc, List.getElem_take, List.getD_eq_getElem?_getD, List.getElem?_eq_getElem (by omega)]
      rfl

def encAll : List Int → List UInt8
  | [] => []
  | x :: r => enc (zig x) ++ encAll r
def one (s : ByteArray) : List UInt8 := enc (zig (s.size : Int)) ++ s.data.toList
def txtAll : List ByteArray → List UInt8
  | [] => []
  | s :: r => one s ++ txtAll r
theorem encAll_append (a b : List Int) : encAll (a ++ b) = encAll a ++ encAll b := by
  induction a with
  | nil => rfl
  | cons x r ih => simp only [List.cons_append, encAll, ih, List.append_assoc]
theorem txtAll_append (a b : List ByteArray) : txtAll (a ++ b) = txtAll a ++ txtAll b := by
  induction a with
  | nil => rfl
  | cons x r ih => simp only [List.cons_append, txtAll, ih, List.append_assoc]
theorem encAll_step (l : List Int) (k : Nat) (h : k < l.length) : encAll (l.take (k + 1)) = encAll (l.take k) ++ enc (zig l[k]) := by
  rw [List.take_succ_eq_append_getElem h, encAll_append]
  simp [encAll]
theorem txtAll_step (l : List ByteArray) (k : Nat) (h : k < l.length) : txtAll (l.take (k + 1)) = txtAll (l.take k) ++ one l[k] := by
  rw [List.take_succ_eq_append_getElem h, txtAll_append]
  simp [txtAll]
theorem encAll_split (l : List Int) (k : Nat) (h : k < l.length) : encAll l = encAll (l.take k) ++ (enc (zig l[k]) ++ encAll (l.drop (k + 1))) := by
  rw [← List.append_assoc, ← encAll_step l k h, ← encAll_append, List.take_append_drop]
theorem txtAll_split (l : List ByteArray) (k : Nat) (h : k < l.length) : txtAll l = txtAll (l.take k) ++ (one l[k] ++ txtAll (l.drop (k + 1))) := by
  rw [← List.append_assoc, ← txtAll_step l k h, ← txtAll_append, List.take_append_drop]
theorem encAll_len (l : List Int) (h : ∀ x ∈ l, -9223372036854775808 ≤ x ∧ x ≤ 9223372036854775807) : (encAll l).length ≤ 10 * l.length := by
  induction l with
  | nil => simp [encAll]
  | cons x r ih =>
    have := ih fun y hy => h y (List.mem_cons_of_mem _ hy)
    have hx := h x (List.mem_cons_self ..)
    have := enc_ten _ (zig_lt x hx.1 hx.2)
    simp only [encAll, List.length_append, List.length_cons]
    omega
theorem txtAll_len (l : List ByteArray) (h : tot l ≤ 1048576) : (txtAll l).length ≤ 10 * tot l := by
  induction l with
  | nil => simp [txtAll]
  | cons s r ih =>
    simp only [tot] at h ⊢
    have := ih (by omega)
    have hk := size_ok s (by omega)
    have := enc_ten _ (zig_lt _ hk.1 hk.2)
    have hs := Lib.size_eq s
    simp only [txtAll, one, List.length_append]
    omega
theorem tot_le {l : List ByteArray} {k : Nat} (h : k < l.length) : (l[k]).size + 1 ≤ tot l := by
  induction l generalizing k with
  | nil => simp at h
  | cons s r ih =>
    cases k with
    | zero => simp [tot]
    | succ k =>
      have := ih (k := k) (by simpa using h)
      simp only [List.getElem_cons_succ, tot]
      omega

set_option maxHeartbeats 1000000 in
theorem all18 (a : Option Addr) (n c : Nat) (l : List Int) (w : World) (hn : n = l.length) (hv : RdI w (.slice a n c) l) (hbig : l.length ≤ 1048576) :
    Calls Try.prog 18 #[.slice a n c] w fun e w' => ∃ v', e = .returned v' ∧ Own w' w.heap.size v' (encAll l) ∧ Below w.heap.size w w' := by
  subst hn
  have hlen := encAll_len l hv.1
  have hput := fun v k (h : k < l.length) w' (hr : Rd w' v (encAll (l.take k))) => put10 v (encAll (l.take k)) l[k] w' hr (hv.1 _ (List.getElem_mem h)).1 (hv.1 _ (List.getElem_mem h)).2 (by
    have := congrArg List.length (encAll_split l k h)
    rw [List.length_append] at this
    omega)
  have hcells : ∀ k (h : k < l.length), ∃ b o, a = some ⟨b, o, none⟩ ∧ b < w.heap.size ∧ w.cell? ⟨b, o + k, none⟩ = some (.int .i64 l[k]) := by
    intro k h
    obtain ⟨_, a1, c1, e, _, hc⟩ := hv
    injection e with e1 e2 e3
    subst e1
    obtain ⟨b, o, e, hb, hcs⟩ := hc (by intro e; subst e; simp at h)
    exact ⟨b, o, e, hb, hcs k h⟩
  by_cases h0 : l = []
  · subst h0
    clear hput hcells hlen hv
    go_enter Try.func18, Try.ntmps18
    go_wp2
    refine wp_loop_rounds 1 ?_
    rw [rounds_succ]
    go_wp2
    go_ret
    exact ⟨_, rfl, Own.nil _ _, Below.refl _ _⟩
  · have hp : 0 < l.length := by cases l with | nil => exact absurd rfl h0 | cons _ _ => simp
    obtain ⟨b, o, rfl, hb, _⟩ := hcells 0 hp
    have hcells2 : ∀ k (h : k < l.length), w.cell? ⟨b, o + k, none⟩ = some (.int .i64 l[k]) := by
      intro k h
      obtain ⟨b', o', e, _, hc⟩ := hcells k h
      injection e with e
      injection e with e1 e2
      subst e1 e2
      exact hc
    have HP := Lib.hid hput
    have HC := Lib.hid hcells2
    clear hput hcells hcells2 hlen hv h0
    go_enter Try.func18, Try.ntmps18
    go_wp2
    go_loopw [3, 8] (fun v i wr => ∃ k : Nat, k ≤ l.length ∧ i = .int .i64 k ∧ Hid (Own wr w.heap.size v (encAll (l.take k))) ∧ Hid (Below w.heap.size w wr)) (fun _ i _ => l.length - (intOf i).toNat)
    case atStart => exact ⟨0, Nat.zero_le _, rfl, Own.nil _ _, Below.refl _ _⟩
    case round =>
      obtain ⟨k, hk, rfl, ho, hbl⟩ := hrel
      by_cases hlt : k < l.length
      · have hcell : wr.cell? ⟨b, o + k, none⟩ = some (.int .i64 l[k]) := (hbl.out.cell (p := ⟨b, o + k, none⟩) hb).trans (HC.out k hlt)
        have hstep : Hid (encAll (l.take (k + 1)) = encAll (l.take k) ++ enc (zig l[k])) := encAll_step l k hlt
        have hpp := HP.out u3 k hlt wr ho.out.rd
        generalize l[k] = x at *
        have HPP := Lib.hid hpp
        clear hpp
        go_wp2_with fail
        refine HPP.out.mono ?_
        rintro e w1 ⟨v1, rfl, ho1, hb1⟩
        have HO1 := Lib.hid ho1
        have HB1 := Lib.hid hb1
        clear ho1 hb1
        go_wp2
        go_roundw
        case rel =>
          refine ⟨k + 1, by omega, by go_num, ?_, hbl.out.trans (HB1.out.mono hbl.out.size)⟩
          show Own _ _ _ _
          rw [hstep.out]
          exact HO1.out.base hbl.out.size
        case measure => simp [intOf]; omega
      · have : k = l.length := by omega
        subst this
        have HO : Hid (Own wr w.heap.size u3 (encAll l)) := by
          have := ho.out
          rw [List.take_length] at this
          exact this
        clear ho
        go_wp2
        go_ret
        exact ⟨_, rfl, HO.out, hbl.out⟩
end Go.Proofs.Ytefiliomfiomfaa
