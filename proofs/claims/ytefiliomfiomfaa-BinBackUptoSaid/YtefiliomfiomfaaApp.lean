/- Appends to a slice that the call owns; the reference's Lent, Put, Text; bin.Text. -/
import Derived.Test.YtefiliomfiomfaaSl
import Derived.Laws.AppendOwnNone
import Derived.Lib.AppendStr
namespace Go.Proofs.Ytefiliomfiomfaa
open Go.RowKit

theorem Own.below_grown {w w' : World} {base : Nat} {v : Value} {l : List UInt8} (h : Own w base v l) (hg : w.grownBy w' v.ownBlock) (hb : base ≤ w.heap.size) : Below base w w' :=
  (Below.refl base w).grown hg hb fun k hk => (World.ownsRow.lt h k hk).1
theorem Own.nil (w : World) (base : Nat) : Own w base (.slice none 0 0) [] := World.ownsRow_nil _ _ _ _

/-- 'append(out, xs...)', out the call's own. -/
theorem wpList_appB {w : World} {ops : Array Oper} {rest : List Oper} {o : Oper} {a : Act} {Q : Exit → Act → World → Prop} (hgd : o.guard = none) (s x : Operand)
    (ho : o.op = .call { callee := .builtin .append, args := #[s, x], argTypes := #[24, 24] })
    (base : Nat) (v xv : Value) (l r : List UInt8) (hs : a.eval s = v) (hx : a.eval x = xv) (hown : Own w base v l) (hr : Rd w xv r)
    (hlen : l.length + r.length ≤ 140737488355328) (hbase : base ≤ w.heap.size)
    (h : ∀ v' w', Own w' base v' (l ++ r) → Below base w w' → wpList Try.prog ops Q rest (a.put o.dst v') w') : wpList Try.prog ops Q (o :: rest) a w := by
  obtain ⟨i0, hi, hz0, hz1, hz2⟩ := info_parts Try.info5
  obtain ⟨ad, c, rfl, hlc, hn0, hcells⟩ := id hr
  cases ad with
  | none =>
    have hc := hn0 rfl
    subst hc
    have hr0 : r = [] := List.eq_nil_of_length_eq_zero (by omega)
    subst hr0
    refine wpList_append_own_none hgd s x 24 ho base 5 i0 1 Try.underlying24 hi v l.length (l.map bv) hs hown hx ?_
    exact h v w (by simpa using hown) (Below.refl _ _)
  | some b =>
    refine wpList_append_own w hgd s x 24 ho base 5 i0 (.int .u8 0) 1 1 Try.underlying24 hi hz0 hz1 hz2 rfl (by decide) v l.length (l.map bv) hs hown b r.length c (r.map bv) hx (by simp) ((Rd.cells hr).2.2 b rfl) (oneCell_bv _) (by unfold maxLen; omega) (by omega) hbase ?_
    intro v' w' hown' hg _
    refine h v' w' ?_ (hown.below_grown hg hbase)
    unfold Own
    simpa using hown'
/-- 'append(out, s...)', out the call's own, s a text. -/
theorem wpList_appS {w : World} {ops : Array Oper} {rest : List Oper} {o : Oper} {a : Act} {Q : Exit → Act → World → Prop} (hgd : o.guard = none) (s x : Operand)
    (ho : o.op = .call { callee := .builtin .append, args := #[s, x], argTypes := #[24, 9] })
    (base : Nat) (v : Value) (l : List UInt8) (t : ByteArray) (hs : a.eval s = v) (hx : a.eval x = .string t) (hown : Own w base v l)
    (hlen : l.length + t.size ≤ 140737488355328) (hbase : base ≤ w.heap.size)
    (h : ∀ v' w', Own w' base v' (l ++ t.data.toList) → Below base w w' → wpList Try.prog ops Q rest (a.put o.dst v') w') : wpList Try.prog ops Q (o :: rest) a w := by
  obtain ⟨i0, hi, hz0, hz1, hz2⟩ := info_parts Try.info5
  refine Lib.wpList_append_own_string w hgd s x 24 9 ho base 5 i0 Try.underlying24 Try.underlying9 hi hz0 hz1 hz2 v l.length (l.map bv) hs hown t hx (by unfold maxLen; omega) hlen hbase ?_
  intro v' w' hown' hg _
  refine h v' w' ?_ (hown.below_grown hg hbase)
  unfold Own
  have e : (l ++ t.data.toList).length = l.length + t.size := by rw [List.length_append, ← Lib.size_eq]
  rw [e, List.map_append]
  exact hown'

set_option maxHeartbeats 1000000 in
theorem lent12 (v : Value) (l : List UInt8) (w : World) (hv : Rd w v l) (hl : l.length ≤ 140737488355328) : Calls Try.prog 12 #[v] w fun e w' =>
    ∃ v', e = .returned v' ∧ Own w' w.heap.size v' l ∧ Below w.heap.size w w' := by
  have HV := Lib.hid hv
  clear hv
  go_enter Try.func12, Try.ntmps12
  go_wp2_with (at_builtin; refine wpList_appB rfl (.tmp 4) (.tmp 5) rfl w.heap.size (.slice none 0 0) v [] l rfl rfl (Own.nil _ _) HV.out ?h1 (Nat.le_refl _) ?_)
  case h1 => simpa using hl
  intro v' w' ho hb
  have HO := Lib.hid ho
  have HB := Lib.hid hb
  clear ho hb
  go_wp2
  go_ret
  exact ⟨v', rfl, by simpa using HO.out, HB.out⟩

end Go.Proofs.Ytefiliomfiomfaa
