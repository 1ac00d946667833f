/- The reference's Bytes. -/
import Derived.Test.YtefiliomfiomfacRRead
namespace Go.Proofs.Ytefiliomfiomfac
open Go.RowKit Go.Maps

theorem OB.lt {w : World} {v : Value} {l : List UInt8} (h : OB w v l) : ∀ k, v.ownBlock = some k → k < w.heap.size := fun k hk => (World.ownsRow.lt h k hk).2
theorem OB.nil (w : World) : OB w (.slice none 0 0) [] := World.ownsRow_nil _ _ _ _
/-- 'append(out, b)', out the call's own. -/
theorem wpList_appB {w : World} {ops : Array Oper} {rest : List Oper} {o : Oper} {a : Act} {Q : Exit → Act → World → Prop} (hgd : o.guard = none) (s x : Operand)
    (ho : o.op = .call { callee := .builtin .append, args := #[s, x], argTypes := #[67, 67] })
    (v : Value) (l : List UInt8) (g : Nat) (t : UInt8) (hs : a.eval s = v) (hx : a.eval x = .slice (some ⟨g, 0, none⟩) 1 1) (hown : OB w v l) (hcell : w.cell? ⟨g, 0, none⟩ = some (bv t))
    (hlen : l.length ≤ 1048576)
    (h : ∀ v' w', OB w' v' (l ++ [t]) → w.grownBy w' v.ownBlock → (v'.ownBlock = v.ownBlock ∨ v'.ownBlock = some w.heap.size) → wpList Try.prog ops Q rest (a.put o.dst v') w') : wpList Try.prog ops Q (o :: rest) a w := by
  obtain ⟨i0, hi, hz0, hz1, hz2⟩ := info_parts info5
  refine wpList_append_own_at w hgd s x 67 ho 0 5 i0 (.int .u8 0) 1 1 Try.underlying67 hi hz0 hz1 hz2 rfl (by decide) v l.length (l.map bv) hs hown ⟨g, 0, none⟩ 1 1 [bv t] hx rfl ?_ ?_ (by unfold maxLen; omega) (by omega) (Nat.zero_le _) ?_
  · intro j u hu
    cases j with
    | zero =>
      simp at hu
      subst hu
      exact hcell
    | succ j => simp at hu
  · intro u hu
    simp at hu
    subst hu
    rfl
  · intro v' w' hown' hg _ hloc
    refine h v' w' ?_ hg hloc
    unfold OB
    simpa using hown'
theorem bytesOf_succ (r : List Int) (k : Nat) : bytesOf r (k + 1) = bytesOf r k ++ [byteOf r k] := by
  unfold bytesOf
  rw [List.range_succ, List.map_append]
  rfl
theorem len_wordsR {w : World} {F : Nat → Prop} {p : Value} {L : List Rec} {most : Nat} (h : RT w F p L most) (a : Int) (n : Int) (r : List Int) (hw : words (L.map thOf) a = some (n :: r)) :
    Calls Try.prog 42 #[p, .int .i64 a] w fun e w' => e = .returned (.tuple #[.int .i64 n, .int .i64 0]) ∧ w' = w := by
  have := lenR42 h a
  unfold lenF at this
  rw [hw] at this
  exact this
theorem bytesR_none {w : World} {F : Nat → Prop} {p : Value} {L : List Rec} {most : Nat} (h : RT w F p L most) (a : Int) (x : Int) (hx : (lenF (L.map thOf) a).2 = x) (hx0 : x ≠ 0) :
    Calls Try.prog 43 #[p, .int .i64 a] w fun e w' => e = .returned (bytesV ([], x)) ∧ w' = w := by
  have hl := lenR42 h a
  unfold two at hl
  rw [hx] at hl
  generalize (lenF (L.map thOf) a).1 = y at *
  have HL := Lib.hid hl
  obtain ⟨R, rfl⟩ := h.p
  have hd : (x != 0) = true := by simpa using hx0
  clear hl hx h
  go_enter Try.func43, Try.ntmps43
  go_wp2_with fail
  refine HL.out.mono ?_
  rintro e w1 ⟨rfl, rfl⟩
  go_wp2
  go_ret2
  exact ⟨rfl, rfl⟩
/-- A thing that has words. -/
theorem RT.there {w : World} {F : Nat → Prop} {p : Value} {L : List Rec} {most : Nat} (h : RT w F p L most) (a : Int) (n : Int) (r : List Int) (hw : words (L.map thOf) a = some (n :: r)) :
    ∃ (k R b wb wo wc c : Nat), FI L a = (k : Int) ∧ k < L.length ∧ p = .pointer (some ⟨R, 0, none⟩) ∧ w.cell? ⟨R, 1, none⟩ = some (.slice (some ⟨b, 0, none⟩) L.length c) ∧ w.cell? ⟨b, k * 4 + 2, none⟩ = some (.slice (some ⟨wb, wo, none⟩) (r.length + 1) wc) ∧ r.length + 1 ≤ wc ∧ r.length + 1 ≤ 4096 ∧ L.length ≤ 4096 ∧
      wb < w.heap.size ∧ ∀ q (hq : q < r.length), w.cell? ⟨wb, wo + (1 + q), none⟩ = some (.int .i64 r[q]) := by
  obtain ⟨k, hf⟩ := words_find hw
  obtain ⟨hk, hw'⟩ := find_rec hf
  rw [hw] at hw'
  have hlw := (Option.some.inj hw').symm
  have how := (h.ows k hk)
  have hol := how.ri
  obtain ⟨hl, hu⟩ := h.len
  have hus := UT_step L k hk
  have hul := UT_le L (k + 1)
  obtain ⟨R, av, c, rfl, c0, c1, hs⟩ := h.see
  obtain ⟨b, rfl, _, _, y2, _⟩ := hs k hk
  rw [hlw] at how hol hus
  obtain ⟨wa, wc, hv⟩ := how.shape
  rw [hv] at y2 hol
  obtain ⟨_, hlc, hcl⟩ := hol.at_
  obtain ⟨wb, wo, rfl, hcz⟩ := hcl (by simp)
  refine ⟨k, R, b, wb, wo, wc, c, FI_some hf, hk, rfl, c1, y2, hlc, ?_, hl, ?_, fun q hq => ?_⟩
  · simp at hus; omega
  · have := hcz 0 (by simp)
    exact World.block_lt_of_cell? w _ this
  · have := hcz (q + 1) (by simp; omega)
    rw [Nat.add_comm 1 q]
    simpa using this
set_option maxHeartbeats 1000000 in
theorem bytesR_form {w : World} {F : Nat → Prop} {p : Value} {L : List Rec} {most : Nat} (h : RT w F p L most) (a : Int) (n : Int) (r : List Int) (hw : words (L.map thOf) a = some (n :: r))
    (hbad : n < 0 ∨ 8 * ((r.length : Int) + 1) < n ∨ (n + 7) / 8 ≠ (r.length : Int)) :
    Calls Try.prog 43 #[p, .int .i64 a] w fun e w' => e = .returned (bytesV ([], 5)) ∧ w' = w := by
  have HL := Lib.hid (len_wordsR h a n r hw)
  have HF := Lib.hid (find40 h a)
  obtain ⟨k, R, b, wb, wo, wc, c, hfi, hk, rfl, c1, y2, hlc, hr, hl, hwb, hcs⟩ := h.there a n r hw
  rw [hfi] at HF
  clear h hw hfi hwb hcs
  generalize r.length = m at *
  by_cases h0 : n < 0
  · clear hbad
    go_enter Try.func43, Try.ntmps43
    go_wp2_with fail
    refine HL.out.mono ?_
    rintro e w1 ⟨rfl, rfl⟩
    go_wp2_with fail
    refine HF.out.mono ?_
    rintro e w2 ⟨rfl, rfl⟩
    go_wp2
    go_ret2
    exact ⟨rfl, rfl⟩
  · by_cases h1 : 8 * ((m : Int) + 1) < n
    · clear hbad
      go_enter Try.func43, Try.ntmps43
      go_wp2_with fail
      refine HL.out.mono ?_
      rintro e w1 ⟨rfl, rfl⟩
      go_wp2_with fail
      refine HF.out.mono ?_
      rintro e w2 ⟨rfl, rfl⟩
      go_wp2
      go_ret2
      exact ⟨rfl, rfl⟩
    · obtain ⟨n', rfl⟩ : ∃ n' : Nat, n = (n' : Int) := ⟨n.toNat, by omega⟩
      have hne : ¬ ((m : Int) = ((n' : Int) + 7) / 8) := by omega
      have hd : ((m : Int) != ((n' : Int) + 7) / 8) = true := by simpa using hne
      clear hbad
      go_enter Try.func43, Try.ntmps43
      go_wp2_with fail
      refine HL.out.mono ?_
      rintro e w1 ⟨rfl, rfl⟩
      go_wp2_with fail
      refine HF.out.mono ?_
      rintro e w2 ⟨rfl, rfl⟩
      go_wp2
      go_ret2
      exact ⟨rfl, rfl⟩
theorem OB.shape {w : World} {v : Value} {l : List UInt8} (h : OB w v l) : (l = [] ∧ v = .slice none 0 0) ∨ ∃ g c, v = .slice (some ⟨g, 0, none⟩) l.length c := by
  rcases h.2 with ⟨e, hn⟩ | ⟨g, c, cur, e, _⟩
  · exact .inl ⟨List.eq_nil_of_length_eq_zero hn, e⟩
  · exact .inr ⟨g, c, e⟩
theorem OB.chg {F : Nat → Prop} {w w' : World} {v : Value} {l : List UInt8} (h : OB w v l) (hc : Chg F w w') (hb : ∀ k, v.ownBlock = some k → ¬ F k) : OB w' v l := by
  have hlt := h.lt
  obtain ⟨h1, h2⟩ := h
  refine ⟨h1, ?_⟩
  rcases h2 with h2 | ⟨g, cap, cur, rfl, hb', hg, h3⟩
  · exact .inl h2
  · exact .inr ⟨g, cap, cur, rfl, hb', (hc.block g (hlt g rfl) (hb g rfl)).trans hg, h3⟩
theorem OB.convert {w : World} {v : Value} {l : List UInt8} (h : OB w v l) : (convert 67 9 v).run Try.prog w = .ok (.string ⟨l.toArray⟩) w := by
  rcases h.shape with ⟨rfl, rfl⟩ | ⟨g, c, rfl⟩
  · exact run_convert_bytes_nil w 67 5 Try.underlying67 Try.underlying5 0 0 9 Try.underlying9
  · exact h.text rfl
/-- One element more. -/
theorem app_step {w wr w2 : World} {u v2 : Value} {o : Obj} (hg : ∀ g, u.ownBlock = some g → w.heap.size ≤ g) (hb : Below w.heap.size w wr) (hg2 : (wr.alloc o).grownBy w2 u.ownBlock) (hl2 : v2.ownBlock = u.ownBlock ∨ v2.ownBlock = some (wr.heap.size + 1)) :
    (∀ g, v2.ownBlock = some g → w.heap.size ≤ g) ∧ Below w.heap.size w w2 := by
  have hc2 : Chg (fun g => u.ownBlock = some g) wr w2 := (Chg.alloc _ wr _).trans (Chg.grown (F := fun g => u.ownBlock = some g) hg2 (fun _ e => e)) (fun _ e => .inl e)
  refine ⟨fun g hgk => ?_, hb.trans (hc2.below hb.size hg)⟩
  rcases hl2 with e | e
  · exact hg g (e.symm.trans hgk)
  · have e1 := Option.some.inj (e.symm.trans hgk)
    have := hb.size
    omega
theorem bv_byteOf (r : List Int) (k : Nat) (hq : k / 8 < r.length) (j : Nat) (hj : k % 8 = j) : bv (byteOf r k) = .int .u8 (r[k / 8] / 2 ^ (8 * j) % 256) := by
  unfold bv byteOf
  rw [byte_val, List.getD_eq_getElem?_getD, List.getElem?_eq_getElem hq, hj, Nat.mul_comm]
  rfl
set_option maxRecDepth 100000 in
set_option maxHeartbeats 2000000 in
theorem bytesR_ok {w : World} {F : Nat → Prop} {p : Value} {L : List Rec} {most : Nat} (h : RT w F p L most) (a : Int) (m : Nat) (r : List Int) (hw : words (L.map thOf) a = some ((m : Int) :: r))
    (h1 : m ≤ 8 * (r.length + 1)) (h2 : (m + 7) / 8 = r.length) :
    Calls Try.prog 43 #[p, .int .i64 a] w fun e w' => e = .returned (bytesV (bytesOf r m, 0)) ∧ Below w.heap.size w w' := by
  have HL := Lib.hid (len_wordsR h a m r hw)
  have HF := Lib.hid (find40 h a)
  obtain ⟨k, R, b, wb, wo, wc, c, hfi, hk, rfl, c1, y2, hlc, hr, hl, hwb, hcs⟩ := h.there a m r hw
  rw [hfi] at HF
  have HR := Lib.hid hcs
  clear h hw hfi hcs
  obtain ⟨n, hn⟩ : ∃ n, r.length = n := ⟨_, rfl⟩
  have HN := Lib.hid hn
  rw [hn] at y2 hlc hr h1 h2
  have d1 : ¬ ((8 : Int) * ((n : Int) + 1) < (m : Int)) := by omega
  have d2 : ((m : Int) + 7) / 8 = (n : Int) := by omega
  have d3 : m ≤ 32768 := by omega
  clear hn
  go_enter Try.func43, Try.ntmps43
  go_wp2_with fail
  refine HL.out.mono ?_
  rintro e w1 ⟨rfl, rfl⟩
  go_wp2_with fail
  refine HF.out.mono ?_
  rintro e w2 ⟨rfl, rfl⟩
  go_wp2
  go_loopw [10, 11] (fun v i wr => ∃ k : Nat, k ≤ m ∧ i = .int .i64 k ∧ Hid (OB wr v (bytesOf r k)) ∧ Hid (∀ g, v.ownBlock = some g → w2.heap.size ≤ g) ∧ Hid (Below w2.heap.size w2 wr)) (fun _ i _ => m - (intOf i).toNat)
  case atStart => exact ⟨0, Nat.zero_le _, rfl, Lib.hid (OB.nil _), Lib.hid (fun g hg => by cases hg), Lib.hid (Below.refl _ _)⟩
  case round =>
    obtain ⟨q, hq, rfl, ho, hg, hb⟩ := hrel
    by_cases hlt : q < m
    · have hqr : q / 8 < r.length := by have := HN.out; omega
      have hx : wr.cell? ⟨wb, wo + (1 + q / 8), none⟩ = some (.int .i64 r[q / 8]) := (hb.out.cell (p := ⟨wb, _, none⟩) hwb).trans (HR.out (q / 8) hqr)
      obtain ⟨j, hj⟩ : ∃ j, q % 8 = j := ⟨_, rfl⟩
      have hbo := Lib.hid (bv_byteOf r q hqr j hj)
      have HSUC := Lib.hid (bytesOf_succ r q)
      have HLN : Hid ((bytesOf r q).length ≤ 1048576) := Lib.hid (by rw [len_bytesOf]; omega)
      generalize r[q / 8] = x at *
      obtain ⟨z, hz⟩ : ∃ z, q / 8 = z := ⟨_, rfl⟩
      rw [hz] at hx
      have e1 : (q : Int) / 8 = (z : Int) := by omega
      have e2 : (q : Int) % 8 = (j : Int) := by omega
      have hj8 : j < 8 := by omega
      have hzn : z < n := by have := HN.out; omega
      clear hqr hz hj
      go_wp2_with (at_builtin; refine wpList_appB rfl (.tmp 55) (.tmp 68) rfl u10 (bytesOf r q) wr.heap.size (byteOf r q) rfl rfl (ho.out.chg (Chg.alloc (fun _ => False) wr _) (fun _ _ e => e)) (by rw [World.cell?_alloc_mark, hbo.out]; rfl) HLN.out ?_)
      intro v2 w3 ho2 hg2 hl2
      obtain ⟨g2, b2⟩ := app_step hg.out hb.out hg2 hl2
      have HG2 := Lib.hid g2
      have HB2 := Lib.hid b2
      have HO2 : Hid (OB w3 v2 (bytesOf r (q + 1))) := Lib.hid (by rw [HSUC.out]; exact ho2)
      clear ho2 hg2 hl2 g2 b2
      go_wp2
      go_roundw
      case rel => exact ⟨q + 1, by omega, by go_num, HO2, HG2, HB2⟩
      case measure => simp [intOf]; omega
    · have hqm : q = m := by omega
      subst hqm
      have htx := ho.out.convert
      clear ho
      go_wp2
      go_ret2
      exact ⟨rfl, hb.out⟩
theorem bytesR43 {w : World} {F : Nat → Prop} {p : Value} {L : List Rec} {most : Nat} (h : RT w F p L most) (a : Int) :
    Calls Try.prog 43 #[p, .int .i64 a] w fun e w' => e = .returned (bytesV (bytesF (L.map thOf) a)) ∧ Below w.heap.size w w' := by
  unfold bytesF
  cases hw : words (L.map thOf) a with
  | none =>
    refine (bytesR_none h a 3 (by unfold lenF; rw [hw]) (by decide)).mono ?_
    rintro e w' ⟨rfl, rfl⟩
    exact ⟨rfl, Below.refl _ _⟩
  | some l =>
    cases l with
    | nil =>
      refine (bytesR_none h a 5 (by unfold lenF; rw [hw]) (by decide)).mono ?_
      rintro e w' ⟨rfl, rfl⟩
      exact ⟨rfl, Below.refl _ _⟩
    | cons n r =>
      show Calls Try.prog 43 #[p, .int .i64 a] w fun e w' => e = .returned (bytesV (if n < 0 ∨ 8 * ((r.length : Int) + 1) < n ∨ (n + 7) / 8 ≠ (r.length : Int) then ([], 5) else (bytesOf r n.toNat, 0))) ∧ Below w.heap.size w w'
      by_cases hb : n < 0 ∨ 8 * ((r.length : Int) + 1) < n ∨ (n + 7) / 8 ≠ (r.length : Int)
      · rw [if_pos hb]
        refine (bytesR_form h a n r hw hb).mono ?_
        rintro e w' ⟨rfl, rfl⟩
        exact ⟨rfl, Below.refl _ _⟩
      · rw [if_neg hb]
        obtain ⟨m, rfl⟩ : ∃ m : Nat, n = (m : Int) := ⟨n.toNat, by omega⟩
        rw [Int.toNat_natCast]
        exact bytesR_ok h a m r hw (by omega) (by omega)
end Go.Proofs.Ytefiliomfiomfac
