/- The law's where. -/
import Derived.Test.YtefiliomfiomfacAll
import Derived.Test.YtefiliomfiomfacArgs
import Derived.IntWalk
import Derived.BigQuiet
namespace Go.Proofs.Ytefiliomfiomfac
open Go.RowKit Go.Maps

theorem ats_pos0 {w : World} {F : Nat → Prop} {p : Value} {L : List Rec} {most : Nat} (h : RT w F p L most) (k : Nat) (hk : k < L.length) : L[k].at_ = (pos (L.map thOf) k : Int) + 1 := by
  have := ats_pos L 0 h.2.1 k hk
  rw [this]
  omega
/-- An act's address. -/
def whereF (T : List Th) (x : ActV) : Int := if x.which = true ∧ 0 ≤ x.at_ ∧ 0 < T.length then (pos T (x.at_.toNat % T.length) : Int) + 1 else x.at_
def actV (x : ActV) : Value := .agg #[.int .i64 x.kind, .int .i64 x.id, .int .i64 x.n, .string x.s, .int .i64 x.at_, .int .i64 x.v, .bool x.which]
set_option maxHeartbeats 1000000 in
theorem where20 {w : World} {F : Nat → Prop} {p : Value} {L : List Rec} {most : Nat} (h : RT w F p L most) (x : ActV) : Calls Try.prog 20 #[p, actV x] w fun e w' => e = .returned (.int .i64 (whereF (L.map thOf) x)) ∧ Below w.heap.size w w' := by
  obtain ⟨hl, hu⟩ := h.len
  obtain ⟨R, hp⟩ := h.p
  subst hp
  have HB : Hid (Below w.heap.size w (w.alloc (.cells #[.int .i64 x.kind, .int .i64 x.id, .int .i64 x.n, .string x.s, .int .i64 x.at_, .int .i64 x.v, .bool x.which] 45))) := Lib.hid ((Below.refl _ w).alloc (Nat.le_refl _) _)
  obtain ⟨kd, id, n, s, at_, v, wh⟩ := x
  unfold whereF actV
  simp only at HB ⊢
  have hlm : (L.map thOf).length = L.length := List.length_map ..
  rw [hlm]
  obtain ⟨R', a, c, e0, c0, c1, hs⟩ := h.see
  injection e0 with e0
  injection e0 with e0
  injection e0 with e0
  subst e0
  have hRw : R < w.heap.size := World.block_lt_of_cell? w _ c1
  cases wh with
  | false =>
    rw [if_neg (by simp)]
    clear h hs c0
    go_enter Try.func20, Try.ntmps20
    go_wp2
    go_ret
    exact ⟨rfl, HB.out⟩
  | true =>
    by_cases h0 : at_ < 0
    · rw [if_neg (by omega)]
      clear h hs c0
      go_enter Try.func20, Try.ntmps20
      go_wp2
      go_ret
      exact ⟨rfl, HB.out⟩
    · by_cases hz : L.length = 0
      · rw [if_neg (by omega)]
        rw [hz] at c1
        clear h hs c0
        go_enter Try.func20, Try.ntmps20
        go_wp2
        go_ret
        exact ⟨rfl, HB.out⟩
      · rw [if_pos ⟨rfl, by omega, by omega⟩]
        obtain ⟨q, rfl⟩ : ∃ q : Nat, at_ = (q : Int) := ⟨at_.toNat, by omega⟩
        rw [Int.toNat_natCast]
        have hql : q % L.length < L.length := Nat.mod_lt _ (by omega)
        obtain ⟨b, rfl, y0, _⟩ := hs _ hql
        have hat := ats_pos0 h _ hql
        rw [hat] at y0
        have hbw : b < w.heap.size := World.block_lt_of_cell? w _ y0
        have hmod : (q : Int).tmod (L.length : Int) = ((q % L.length : Nat) : Int) := rfl
        clear h hs c0 hat
        generalize (pos (L.map thOf) (q % L.length) : Int) + 1 = res at *
        obtain ⟨j, hj⟩ : ∃ j, q % L.length = j := ⟨_, rfl⟩
        rw [hj] at hmod y0 hql
        clear hj
        go_enter Try.func20, Try.ntmps20
        go_wp2
        have m1 : ¬ ((L.length : Int) = 0) := by omega
        have m2 : ((L.length : Int) == 0) = false := by simpa using m1
        have w1 : IntKind.i64.wrap (j : Int) = (j : Int) := IntWalk.i64_in _ (by omega)
        have j0 : (0 : Int) ≤ (j : Int) := by omega
        have j1 : (j : Int) < (L.length : Int) := by omega
        have j2 : (j : Int).toNat = j := by omega
        go_quiet (fail)
        go_wp2
        go_ret
        exact ⟨rfl, Chg.below (F := fun _ => False) ((Chg.of_below HB.out).drewN _) (Nat.le_refl _) (fun _ e => e.elim)⟩
end Go.Proofs.Ytefiliomfiomfac
