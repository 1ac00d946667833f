/- hier's Chain. -/
import Derived.Test.YtefiliomfiomfadDoorMay
import Derived.Deep.LoopGhost
namespace Go.Proofs.YtefiliomfiomfadDoor
open Go.RowKit Go.Maps

/-- The loop of Chain, so many rounds. -/
def chainN (H : List (BA × BA)) : Nat → BA → Bool → Option (List BA)
  | 0, _, _ => none
  | k + 1, c, ok => if ok then (chainN H k (superF H c).1 (superF H c).2).map (c :: ·) else some []
theorem chainN_succ (H : List (BA × BA)) (k : Nat) (c : BA) (ok : Bool) : chainN H (k + 1) c ok = if ok then (chainN H k (superF H c).1 (superF H c).2).map (c :: ·) else some [] := rfl
theorem super_size {H : List (BA × BA)} (h : sizes H) (c : BA) : (superF H c).1.size ≤ maxLen := by
  unfold superF
  cases hl : look H c with
  | none => unfold maxLen; simp [ByteArray.size]
  | some s => exact (h _ (look_mem hl)).2
theorem chain_nil (c : BA) (w : World) : Calls Tryd.prog 21 #[.pointer none, .string c] w fun e w' => e = .returned (.slice none 0 0) ∧ w' = w := by
  go_enter Tryd.func21, Tryd.ntmps21
  go_wp2_with fail
  refine (has_nil c w).mono ?_
  rintro e w1 ⟨rfl, rfl⟩
  go_wp2
  refine wp_loop_rounds 1 ?_
  rw [rounds_succ]
  go_wp2
  go_ret
  exact ⟨rfl, rfl⟩
set_option maxRecDepth 100000 in
set_option maxHeartbeats 1000000 in
theorem chain21 {w : World} {F : Nat → Prop} {p : Value} {H : List (BA × BA)} {N : Nat} (h : HP w F p H N) (hH : sizes H) (c : BA) (hc : c.size ≤ maxLen) (k : Nat) (hk : k ≤ 1000) (l : List BA) (hl : chainN H k c (look H c).isSome = some l) :
    Calls Tryd.prog 21 #[p, .string c] w fun e w' => ∃ v, e = .returned v ∧ OS w' v l ∧ (∀ g, v.ownBlock = some g → w.heap.size ≤ g) ∧ Below w.heap.size w w' := by
  have HP0 := Lib.hid h
  have HS := Lib.hid hH
  have HH := Lib.hid (has19 h c hc)
  have HZ := Lib.hid hc
  have HL := Lib.hid hl
  obtain ⟨hb, rfl⟩ := h.p
  generalize (look H c).isSome = ok at *
  clear h hH hc hl
  go_enter Tryd.func21, Tryd.ntmps21
  go_wp2_with fail
  refine HH.out.mono ?_
  rintro e w1 ⟨rfl, rfl⟩
  go_wp2
  go_loopg [1, 5, 6] k (fun kq v1 v5 v6 wr => ∃ (d : BA) (b : Bool) (done : List BA), v1 = .string d ∧ v6 = .bool b ∧ Hid (d.size ≤ maxLen) ∧ Hid (kq ≤ k ∧ done.length + kq = k) ∧ Hid (OS wr v5 done) ∧ Hid (∀ g, v5.ownBlock = some g → w1.heap.size ≤ g) ∧ Hid (Below w1.heap.size w1 wr) ∧ Hid ((chainN H kq d b).map (done ++ ·) = some l))
  case atStart => exact ⟨c, ok, [], rfl, rfl, HZ, Lib.hid ⟨Nat.le_refl _, by simp⟩, Lib.hid (OS.nil _), Lib.hid (fun g hg => by cases hg), Lib.hid (Below.refl _ _), Lib.hid (by rw [HL.out]; simp)⟩
  case round =>
    obtain ⟨d, b, done, rfl, rfl, hd, hkq, ho, hg, hbl, hm⟩ := hrel
    cases gk with
    | zero => exact absurd hm.out (by simp [chainN])
    | succ q =>
      cases b with
      | true =>
        have h2 := hm.out
        rw [chainN_succ, if_pos rfl, Option.map_map] at h2
        have HM : Hid ((chainN H q (superF H d).1 (superF H d).2).map ((done ++ [d]) ++ ·) = some l) := Lib.hid (by
          rw [← h2]
          congr 1
          funext x
          simp)
        have HKQ : Hid (q ≤ k ∧ (done ++ [d]).length + q = k) := Lib.hid (by have := hkq.out; simp; omega)
        clear h2 hm
        go_wp2_with (at_builtin; refine wpList_appS rfl (.tmp 17) (.tmp 19) rfl u5 done wr.heap.size d rfl rfl (ho.out.al _) (by rw [World.cell?_alloc_mark]; rfl) (by have := hkq.out; omega) ?_)
        intro v2 w2 ho2 hg2 hl2
        have hc2 : Chg (fun g => u5.ownBlock = some g) wr w2 := (Chg.alloc _ wr _).trans (Chg.grown (F := fun g => u5.ownBlock = some g) hg2 (fun _ e => e)) (fun _ e => .inl e)
        have HB2 := Lib.hid (hbl.out.trans (hc2.below hbl.out.size hg.out))
        have HO2 := Lib.hid ho2
        have HG2 : Hid (∀ g, v2.ownBlock = some g → w1.heap.size ≤ g) := Lib.hid fun g hgk => by
          rcases hl2 with e | e
          · exact hg.out g (e.symm.trans hgk)
          · have e1 := Option.some.inj (e.symm.trans hgk)
            have e2 : (wr.alloc (.cells #[.string d] 9)).heap.size = wr.heap.size + 1 := by simp
            have := hbl.out.size
            omega
        clear ho2 hg2 hl2 hc2
        have HSU := Lib.hid (super14 (HP0.out.below HB2.out) d hd.out)
        have HSZ := Lib.hid (super_size HS.out d)
        obtain ⟨⟨x, y⟩, hx⟩ : ∃ r, superF H d = r := ⟨_, rfl⟩
        rw [hx] at HSU HSZ HM
        clear hx
        go_wp2_with fail
        refine HSU.out.mono ?_
        rintro e w3 ⟨rfl, rfl⟩
        go_wp2
        go_roundg q
        case rel => exact ⟨x, y, _, rfl, rfl, HSZ, HKQ, HO2, HG2, HB2, HM⟩
        case measure => omega
      | false =>
        have h2 := hm.out
        rw [chainN_succ, if_neg (by simp)] at h2
        have HX : Hid (done = l) := Lib.hid (by simpa using h2)
        clear h2 hm
        go_wp2
        go_ret
        exact ⟨_, rfl, by rw [← HX.out]; exact ho.out, hg.out, hbl.out⟩
end Go.Proofs.YtefiliomfiomfadDoor
