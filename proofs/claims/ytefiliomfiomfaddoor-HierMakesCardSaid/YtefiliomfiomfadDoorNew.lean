/- hier's New. -/
import Derived.Test.YtefiliomfiomfadDoorLoops
namespace Go.Proofs.YtefiliomfiomfadDoor
open Go.RowKit Go.Maps

def exc : BA := ⟨#[69, 120, 99]⟩
def excs : List BA := [⟨#[78, 117, 108, 108, 69, 120, 99]⟩, ⟨#[67, 97, 115, 116, 69, 120, 99]⟩, ⟨#[73, 110, 100, 101, 120, 69, 120, 99]⟩, ⟨#[68, 105, 118, 69, 120, 99]⟩, ⟨#[83, 116, 97, 99, 107, 69, 120, 99]⟩, ⟨#[77, 101, 109, 69, 120, 99]⟩, ⟨#[76, 111, 99, 107, 69, 120, 99]⟩]
/-- The classes that are there always. -/
def base : List (BA × BA) := (obj, ⟨#[]⟩) :: (exc, obj) :: excs.map (fun c => (c, exc))
def fillF : List (BA × BA) → List (BA × BA) → Except BA (List (BA × BA))
  | H, [] => .ok H
  | H, p :: r => if (look H p.1).isSome then .error p.1 else fillF (H ++ [p]) r
theorem fillF_cons (H : List (BA × BA)) (p : BA × BA) (r : List (BA × BA)) : fillF H (p :: r) = if (look H p.1).isSome then .error p.1 else fillF (H ++ [p]) r := rfl
theorem fillF_nil (H : List (BA × BA)) : fillF H [] = .ok H := rfl
def noneF (H : List (BA × BA)) : List (BA × BA) → Option BA
  | [] => none
  | p :: r => if (look H p.2).isSome then noneF H r else some p.1
theorem noneF_cons (H : List (BA × BA)) (p : BA × BA) (r : List (BA × BA)) : noneF H (p :: r) = if (look H p.2).isSome then noneF H r else some p.1 := rfl
theorem noneF_nil (H : List (BA × BA)) : noneF H [] = none := rfl
def loopF (H : List (BA × BA)) : List (BA × BA) → Option BA
  | [] => none
  | p :: r => if loopsF H p then some p.1 else loopF H r
theorem loopF_cons (H : List (BA × BA)) (p : BA × BA) (r : List (BA × BA)) : loopF H (p :: r) = if loopsF H p then some p.1 else loopF H r := rfl
theorem loopF_nil (H : List (BA × BA)) : loopF H [] = none := rfl
def restF (H L : List (BA × BA)) : Option (List (BA × BA)) × BA × Int :=
  match noneF H L with
  | some c => (none, c, 9)
  | none => match loopF H L with
    | some c => (none, c, 14)
    | none => (some H, ⟨#[]⟩, 0)
def newF (L : List (BA × BA)) : Option (List (BA × BA)) × BA × Int :=
  if 32 < L.length then (none, ⟨#[]⟩, 6) else match fillF base L with
    | .error c => (none, c, 8)
    | .ok H => restF H L
/-- What New leaves. -/
def NPost (w : World) (r : Option (List (BA × BA)) × BA × Int) (e : Ending) (w' : World) : Prop := Below w.heap.size w w' ∧ match r.1 with
  | none => e = .returned (.tuple #[.pointer none, .string r.2.1, .int .i64 r.2.2])
  | some H => ∃ p F, e = .returned (.tuple #[p, .string r.2.1, .int .i64 r.2.2]) ∧ HP w' F p H 64 ∧ (∀ k, F k → w.heap.size ≤ k) ∧ sizes H ∧ H.length ≤ 64
/-- The slice v reads as these classes. -/
def RC (w : World) (a : Option Addr) (L : List (BA × BA)) : Prop := L ≠ [] → ∃ b o, a = some ⟨b, o, none⟩ ∧ b < w.heap.size ∧ ∀ i (h : i < L.length), ∃ a2 n2 c2 a3 n3 c3 a4 n4 c4,
  w.cell? ⟨b, o + i * 5, none⟩ = some (.string L[i].1) ∧ w.cell? ⟨b, o + i * 5 + 1, none⟩ = some (.string L[i].2) ∧ w.cell? ⟨b, o + i * 5 + 2, none⟩ = some (.slice a2 n2 c2) ∧ w.cell? ⟨b, o + i * 5 + 3, none⟩ = some (.slice a3 n3 c3) ∧ w.cell? ⟨b, o + i * 5 + 4, none⟩ = some (.slice a4 n4 c4)

theorem NPost.mk_none {w w' : World} {L : List (BA × BA)} {c : BA} {k : Int} {e : Ending} (h : newF L = (none, c, k)) (he : e = .returned (.tuple #[.pointer none, .string c, .int .i64 k])) (hb : Below w.heap.size w w') : NPost w (newF L) e w' := by
  rw [h]
  exact ⟨hb, he⟩
theorem base_sizes : sizes base := by
  intro p hp
  have : ∀ p ∈ base, p.1.size ≤ 10 ∧ p.2.size ≤ 10 := by decide +kernel
  have := this p hp
  unfold maxLen
  omega
/-- The start: a hierarchy of none. -/
theorem HP.start (w : World) : HP ((w.alloc (.map #[] 0)).alloc (.cells #[.slice none 0 0, .map (some w.heap.size)] 51)) (fun k => w.heap.size ≤ k ∧ k < w.heap.size + 2) (.pointer (some ⟨w.heap.size + 1, 0, none⟩)) [] 0 := by
  have e0 : (w.alloc (.map #[] 0)).heap.size = w.heap.size + 1 := by simp
  refine ⟨fun k hk => by have : ((w.alloc (.map #[] 0)).alloc (.cells #[.slice none 0 0, .map (some w.heap.size)] 51)).heap.size = w.heap.size + 2 := by simp
                         omega, w.heap.size + 1, w.heap.size, .slice none 0 0, 0, rfl, ⟨?_, OS.nil _, ?_, by omega, by simp [Value.ownBlock], by simp [Value.ownBlock]⟩, ⟨by omega, by omega⟩, ⟨by omega, by omega⟩, fun g hg => by simp [Value.ownBlock] at hg, Nat.le_refl _⟩
  · have := heap_alloc_new (w.alloc (.map #[] 0)) (.cells #[Value.slice none 0 0, Value.map (some w.heap.size)] 51)
    rw [e0] at this
    exact this
  · exact (MT.new w).chg (Chg.alloc (fun _ => False) _ _) (fun h => h)
/-- Between the rounds. -/
def NInv (w : World) (p : Value) (H : List (BA × BA)) (N : Nat) (wr : World) : Prop := ∃ F, HP wr F p H N ∧ (∀ k, F k → w.heap.size ≤ k) ∧ Below w.heap.size w wr
theorem NInv.add {w wr : World} {p : Value} {H : List (BA × BA)} {N : Nat} (h : NInv w p H N wr) (c s : BA) (hc : c.size ≤ maxLen) (hs : s.size ≤ maxLen) (hN : N ≤ 1048576) (hH : H.length ≤ 1048576) :
    Calls Tryd.prog 25 #[p, .string c, .string s] wr fun e w' => e = .returned (.bool (addF H c s).1) ∧ NInv w p (addF H c s).2 (N + 1) w' := by
  obtain ⟨F, h1, h2, h3⟩ := h
  refine (add25 h1 c s hc hs hN hH).mono ?_
  rintro e w' ⟨rfl, F', hp, hc, hF⟩
  exact ⟨rfl, F', hp, fun k hk => (hF k hk).elim (h2 k) (fun h => Nat.le_trans h3.size h), h3.trans (hc.below h3.size h2)⟩
theorem NInv.al {w wr : World} {p : Value} {H : List (BA × BA)} {N : Nat} (h : NInv w p H N wr) (o : Obj) : NInv w p H N (wr.alloc o) := by
  obtain ⟨F, h1, h2, h3⟩ := h
  exact ⟨F, h1.chg (Chg.alloc (fun _ => False) _ _) (fun _ _ e => e), h2, h3.alloc h3.size o⟩
/-- A store beside a box that the round has laid. -/
theorem NInv.addBox {w wr : World} {p : Value} {H : List (BA × BA)} {N : Nat} (h : NInv w p H N wr) (o : Obj) (c s : BA) (hc : c.size ≤ maxLen) (hs : s.size ≤ maxLen) (hN : N ≤ 1048576) (hH : H.length ≤ 1048576) :
    Calls Tryd.prog 25 #[p, .string c, .string s] (wr.alloc o) fun e w' => e = .returned (.bool (addF H c s).1) ∧ NInv w p (addF H c s).2 (N + 1) w' ∧ w'.heap[wr.heap.size]? = some o := by
  obtain ⟨F, h1, h2, h3⟩ := h
  refine (add25 (h1.chg (Chg.alloc (fun _ => False) wr o) (fun _ _ e => e)) c s hc hs hN hH).mono ?_
  rintro e w' ⟨rfl, F', hp, hc, hF⟩
  have h4 := h3.alloc h3.size o
  refine ⟨rfl, ⟨F', hp, fun k hk => (hF k hk).elim (h2 k) (fun h => Nat.le_trans h4.size h), h4.trans (hc.below h4.size h2)⟩, ?_⟩
  exact (hc.block _ (by simp) (fun hf => by have := h1.1 _ hf; omega)).trans (heap_alloc_new wr o)
theorem NInv.has {w wr : World} {p : Value} {H : List (BA × BA)} {N : Nat} (h : NInv w p H N wr) (o : Obj) (c : BA) (hc : c.size ≤ maxLen) :
    Calls Tryd.prog 19 #[p, .string c] (wr.alloc o) fun e w' => e = .returned (.bool (look H c).isSome) ∧ w' = wr.alloc o := by
  obtain ⟨F, h1, _⟩ := h.al o
  exact has19 h1 c hc
theorem NInv.loops {w wr : World} {p : Value} {H : List (BA × BA)} {N : Nat} (h : NInv w p H N wr) (o : Obj) (hH : sizes H) (c s : BA) (x2 x3 x4 : Value) (hs : s.size ≤ maxLen) (hl : H.length ≤ 1048576) :
    Calls Tryd.prog 26 #[p, .agg #[.string c, .string s, x2, x3, x4]] (wr.alloc o) fun e w' => e = .returned (.bool (loopsF H (c, s))) ∧ NInv w p H N w' ∧ w'.heap[wr.heap.size]? = some o := by
  obtain ⟨F, h1, h2, h3⟩ := h
  have h4 := h3.alloc h3.size o
  have h5 := h1.chg (Chg.alloc (fun _ => False) wr o) (fun _ _ e => e)
  refine (loops26 h5 hH c s x2 x3 x4 hs hl).mono ?_
  rintro e w' ⟨rfl, hb⟩
  exact ⟨rfl, ⟨F, h5.chg (Chg.of_below (F := fun _ => False) hb) (fun _ _ e => e), h2, h4.trans (hb.mono h4.size)⟩, (hb.block _ (by simp)).trans (heap_alloc_new wr o)⟩
/-- .. and the literal of the seven names stands in block q. -/
def NLit (w : World) (p : Value) (H : List (BA × BA)) (N q : Nat) (wr : World) : Prop := ∃ F, HP wr F p H N ∧ (∀ k, F k → w.heap.size ≤ k) ∧ Below w.heap.size w wr ∧ ¬ F q ∧ wr.heap[q]? = some (.cells (excs.map Value.string).toArray 9 (0, 0))
theorem NInv.lit {w wr : World} {p : Value} {H : List (BA × BA)} {N : Nat} (h : NInv w p H N wr) : NLit w p H N wr.heap.size (wr.alloc (.cells (excs.map Value.string).toArray 9)) := by
  obtain ⟨F, h1, h2, h3⟩ := h
  exact ⟨F, h1.chg (Chg.alloc (fun _ => False) _ _) (fun _ _ e => e), h2, h3.alloc h3.size _, fun hf => by have := h1.1 _ hf; omega, heap_alloc_new wr _⟩
theorem NLit.inv {w wr : World} {p : Value} {H : List (BA × BA)} {N q : Nat} (h : NLit w p H N q wr) : NInv w p H N wr := by
  obtain ⟨F, h1, h2, h3, _⟩ := h
  exact ⟨F, h1, h2, h3⟩
theorem NLit.cell {w wr : World} {p : Value} {H : List (BA × BA)} {N q : Nat} (h : NLit w p H N q wr) (k : Nat) (hk : k < 7) : wr.cell? ⟨q, k, none⟩ = some (.string (excs.getD k ⟨#[]⟩)) := by
  obtain ⟨F, _, _, _, _, h5⟩ := h
  rw [cell_of_row wr q k _ 9 (0, 0) h5]
  have : k = 0 ∨ k = 1 ∨ k = 2 ∨ k = 3 ∨ k = 4 ∨ k = 5 ∨ k = 6 := by omega
  rcases this with rfl | rfl | rfl | rfl | rfl | rfl | rfl <;> rfl
theorem NLit.add {w wr : World} {p : Value} {H : List (BA × BA)} {N q : Nat} (h : NLit w p H N q wr) (c s : BA) (hc : c.size ≤ maxLen) (hs : s.size ≤ maxLen) (hN : N ≤ 1048576) (hH : H.length ≤ 1048576) :
    Calls Tryd.prog 25 #[p, .string c, .string s] wr fun e w' => e = .returned (.bool (addF H c s).1) ∧ NLit w p (addF H c s).2 (N + 1) q w' := by
  obtain ⟨F, h1, h2, h3, h4, h5⟩ := h
  refine (add25 h1 c s hc hs hN hH).mono ?_
  rintro e w' ⟨rfl, F', hp, hc, hF⟩
  have hlt := (Array.getElem?_eq_some_iff.1 h5).1
  exact ⟨rfl, F', hp, fun k hk => (hF k hk).elim (h2 k) (fun h => Nat.le_trans h3.size h), h3.trans (hc.below h3.size h2), fun hf => (hF q hf).elim h4 (fun h => by omega), (hc.block q hlt h4).trans h5⟩
theorem excs_size (k : Nat) : (excs.getD k ⟨#[]⟩).size ≤ maxLen := by
  have : ∀ c ∈ excs, c.size ≤ 10 := by decide +kernel
  rw [List.getD_eq_getElem?_getD]
  cases h : excs[k]? with
  | none => unfold maxLen; simp [ByteArray.size]
  | some c =>
    have := this c (List.mem_of_getElem? h)
    unfold maxLen
    show c.size ≤ _
    omega
theorem base_step (k : Nat) (hk : k < 7) : addF (base.take (2 + k)) (excs.getD k ⟨#[]⟩) exc = (true, base.take (2 + (k + 1))) := by
  have : k = 0 ∨ k = 1 ∨ k = 2 ∨ k = 3 ∨ k = 4 ∨ k = 5 ∨ k = 6 := by omega
  rcases this with rfl | rfl | rfl | rfl | rfl | rfl | rfl <;> decide +kernel
theorem NInv.p {w wr : World} {p : Value} {H : List (BA × BA)} {N : Nat} (h : NInv w p H N wr) : ∃ hb, p = .pointer (some ⟨hb, 0, none⟩) := by obtain ⟨F, h1, _⟩ := h; exact h1.p

set_option maxRecDepth 100000 in
set_option maxHeartbeats 4000000 in
theorem new8 (a : Option Addr) (cp : Nat) (L : List (BA × BA)) (w : World) (hL : sizes L) (hR : RC w a L) (hlen : L.length ≤ maxLen) :
    Calls Tryd.prog 8 #[.slice a L.length cp] w (NPost w (newF L)) := by
  unfold maxLen at hlen
  by_cases h32 : 32 < L.length
  · have hN : Hid (newF L = (none, ⟨#[]⟩, 6)) := by unfold newF; exact if_pos h32
    clear hL hR
    go_enter Tryd.func8, Tryd.ntmps8
    go_wp2
    refine bodyPost_ret (v := .tuple #[.pointer none, .string ⟨#[]⟩, .int .i64 6]) (by simp [results, Tryd.results8, go_sem]) rfl ?_
    exact NPost.mk_none hN.out rfl (Below.refl _ _)
  · have hmm := @run_makeMap Tryd.prog
    have hd32 : decide (32 < (L.length : Int)) = false := decide_eq_false (by omega)
    have hNF : Hid (newF L = match fillF base L with | .error c => (none, c, 8) | .ok H => restF H L) := Lib.hid (by unfold newF; exact if_neg h32)
    have HR := Lib.hid hR
    have HL := Lib.hid hL
    have hI : NInv w (.pointer (some ⟨w.heap.size + 1, 0, none⟩)) [] 0 ((w.alloc (.map #[] 0)).alloc (.cells #[.slice none 0 0, .map (some w.heap.size)] 51)) := ⟨_, HP.start w, fun k hk => hk.1, ((Below.refl _ w).alloc (Nat.le_refl _) _).alloc (by simp) _⟩
    have HI := Lib.hid hI
    clear hL hR hI
    go_enter Tryd.func8, Tryd.ntmps8
    go_wp2_with fail
    refine (HI.out.add _ _ (by unfold maxLen; simp [ByteArray.size]) (by unfold maxLen; simp [ByteArray.size]) (by omega) (by simp)).mono ?_
    rintro e w1 ⟨rfl, h1⟩
    have e1 : addF [] (⟨#[79, 98, 106, 101, 99, 116]⟩ : BA) ⟨#[]⟩ = (true, base.take 1) := by decide +kernel
    rw [e1] at h1 ⊢
    have H1 := Lib.hid h1
    clear h1 e1
    go_wp2_with fail
    refine (H1.out.add _ _ (by unfold maxLen; simp [ByteArray.size]) (by unfold maxLen; simp [ByteArray.size]) (by omega) (by simp [base])).mono ?_
    rintro e w2 ⟨rfl, h2⟩
    have e2 : addF (base.take 1) (⟨#[69, 120, 99]⟩ : BA) ⟨#[79, 98, 106, 101, 99, 116]⟩ = (true, base.take 2) := by decide +kernel
    rw [e2] at h2 ⊢
    have H2 : Hid (NLit w (.pointer (some ⟨w.heap.size + 1, 0, none⟩)) (base.take (2 + 0)) (2 + 0) w2.heap.size (w2.alloc (.cells (excs.map Value.string).toArray 9))) := Lib.hid h2.lit
    clear h2 e2
    go_wp2
    change Code.wp _ _ _ _ (w2.alloc (.cells (excs.map Value.string).toArray 9))
    generalize w2.alloc (.cells (excs.map Value.string).toArray 9) = w3 at *
    generalize w2.heap.size = q at *
    go_loopw [26] (fun i wr => ∃ k : Nat, k ≤ 7 ∧ i = .int .i64 k ∧ Hid (NLit w (.pointer (some ⟨w.heap.size + 1, 0, none⟩)) (base.take (2 + k)) (2 + k) q wr)) (fun i _ => 7 - (intOf i).toNat)
    case atStart => exact ⟨0, by omega, rfl, H2⟩
    case round =>
      obtain ⟨k, hk, rfl, hn⟩ := hrel
      by_cases hk7 : k < 7
      · have hcell := hn.out.cell k hk7
        have HS := Lib.hid (base_step k hk7)
        have HZ := Lib.hid (excs_size k)
        have HB : Hid ((base.take (2 + k)).length ≤ 1048576) := Lib.hid (by rw [List.length_take]; omega)
        generalize excs.getD k ⟨#[]⟩ = c at *
        go_wp2_with fail
        refine (hn.out.add _ _ HZ.out (by unfold maxLen; simp [ByteArray.size]) (by omega) HB.out).mono ?_
        rintro e w4 ⟨rfl, h4⟩
        have hst : addF (base.take (2 + k)) c (⟨#[69, 120, 99]⟩ : BA) = (true, base.take (2 + (k + 1))) := HS.out
        rw [hst] at h4 ⊢
        have H4 : Hid (NLit w (.pointer (some ⟨w.heap.size + 1, 0, none⟩)) (base.take (2 + (k + 1))) (2 + (k + 1)) q w4) := Lib.hid h4
        clear h4 hst
        go_wp2
        go_roundw
        case rel => exact ⟨k + 1, by omega, by go_num, H4⟩
        case measure => simp [intOf]; omega
      · have HB : Hid (NInv w (.pointer (some ⟨w.heap.size + 1, 0, none⟩)) base (9 + 0) wr) := Lib.hid (by
          obtain rfl : k = 7 := by omega
          exact hn.out.inv)
        have HB2 : Hid (sizes base ∧ base.length = 9 + 0 ∧ fillF base L = fillF base (L.drop 0)) := Lib.hid ⟨base_sizes, rfl, rfl⟩
        clear hn
        go_wp2
        go_loopw [36] (fun i wr => ∃ (j : Nat) (H : List (BA × BA)), j ≤ L.length ∧ i = .int .i64 j ∧ Hid (NInv w (.pointer (some ⟨w.heap.size + 1, 0, none⟩)) H (9 + j) wr) ∧ Hid (sizes H ∧ H.length = 9 + j ∧ fillF base L = fillF H (L.drop j))) (fun i _ => L.length - (intOf i).toNat)
        case atStart => exact ⟨0, base, by omega, rfl, HB, HB2⟩
        case round =>
          clear HB HB2
          obtain ⟨j, H, hj, rfl, hn, hf⟩ := hrel
          by_cases hjl : j < L.length
          · obtain ⟨b, o, rfl, hb, hcs⟩ := HR.out (fun e => by rw [e] at hjl; simp at hjl)
            obtain ⟨F, hp, hF, hbl⟩ := hn.out
            obtain ⟨a2, n2, c2, a3, n3, c3, a4, n4, c4, y0, y1, y2, y3, y4⟩ := hcs j hjl
            have q0 := (hbl.cell (p := ⟨b, o + j * 5, none⟩) hb).trans y0
            have q1 := (hbl.cell (p := ⟨b, o + j * 5 + 1, none⟩) hb).trans y1
            have q2 := (hbl.cell (p := ⟨b, o + j * 5 + 2, none⟩) hb).trans y2
            have q3 := (hbl.cell (p := ⟨b, o + j * 5 + 3, none⟩) hb).trans y3
            have q4 := (hbl.cell (p := ⟨b, o + j * 5 + 4, none⟩) hb).trans y4
            have hz := HL.out L[j] (List.getElem_mem hjl)
            have hf2 := hf.out
            rw [List.drop_eq_getElem_cons hjl] at hf2
            obtain ⟨⟨nm, sp⟩, hx⟩ : ∃ x, L[j] = x := ⟨_, rfl⟩
            rw [hx] at hf2 hz q0 q1
            obtain ⟨hs, hl, hf3⟩ := hf2
            rw [fillF_cons] at hf3
            simp only at hf3 hz q0 q1
            obtain ⟨z1, z2⟩ := hz
            have HZ1 := Lib.hid z1
            have HZ2 := Lib.hid z2
            have HSZ := Lib.hid hs
            have HHL := Lib.hid hl
            have HF3 := Lib.hid hf3
            have HADD := Lib.hid (hn.out.addBox (.cells #[.string nm, .string sp, .slice a2 n2 c2, .slice a3 n3 c3, .slice a4 n4 c4] 48) nm sp z1 z2 (by omega) (by omega))
            have HBL := Lib.hid hbl
            clear hcs y0 y1 y2 y3 y4 hp hF hbl hx z1 z2 hs hl hf3 hf hn
            go_wp2_with fail
            refine HADD.out.mono ?_
            rintro e w5 ⟨rfl, h5, hbox⟩
            have HFX : Hid (w5.cell? ⟨wr.heap.size, 0, none⟩ = some (.string nm)) := Lib.hid (by unfold World.cell?; rw [hbox]; rfl)
            clear hbox
            by_cases hlk : (look H nm).isSome = true
            · have ha : addF H nm sp = (false, H) := by unfold addF; exact if_pos hlk
              have HE := HF3.out
              rw [if_pos hlk] at HE
              have hnf := hNF.out
              rw [HE] at hnf
              simp only at hnf
              rw [ha] at h5 ⊢
              have H5 := Lib.hid h5
              have HNX := Lib.hid hnf
              have hcx := HFX.out
              clear ha HE hnf h5 hlk
              go_wp2
              go_quiet (fail)
              go_wp2
              refine bodyPost_ret (v := .tuple #[.pointer none, .string nm, .int .i64 8]) (by simp [results, Tryd.results8, go_sem]) rfl ?_
              obtain ⟨F5, _, _, hb5⟩ := H5.out
              exact NPost.mk_none HNX.out rfl (Chg.below (F := fun _ => False) ((Chg.of_below hb5).drewN _) (Nat.le_refl _) (fun _ e => e.elim))
            · have ha : addF H nm sp = (true, H ++ [(nm, sp)]) := by unfold addF; exact if_neg hlk
              have HE := HF3.out
              rw [if_neg hlk] at HE
              rw [ha] at h5 ⊢
              have H5 := Lib.hid h5
              have HREL : Hid (sizes (H ++ [(nm, sp)]) ∧ (H ++ [(nm, sp)]).length = 9 + (j + 1) ∧ fillF base L = fillF (H ++ [(nm, sp)]) (L.drop (j + 1))) := Lib.hid ⟨fun p hp => by
                rcases List.mem_append.1 hp with h | h
                · exact HSZ.out p h
                · simp at h; subst h; exact ⟨HZ1.out, HZ2.out⟩, by rw [List.length_append, HHL.out]; rfl, HE⟩
              clear ha HE h5 hlk
              go_wp2
              go_roundw
              case rel => exact ⟨j + 1, _, by omega, by go_num, H5, HREL⟩
              case measure => simp [intOf]; omega
          · have hm := hf.out
            rw [List.drop_of_length_le (by omega), fillF_nil] at hm
            obtain ⟨hm1, hm2, hm3⟩ := hm
            have hnf := hNF.out
            rw [hm3] at hnf
            simp only at hnf
            have HNF := Lib.hid hnf
            have HSZ := Lib.hid hm1
            have HHL : Hid (H.length ≤ 64) := Lib.hid (by omega)
            obtain ⟨M, hM⟩ : ∃ M, M = 9 + j := ⟨_, rfl⟩
            rw [← hM] at hn
            have HM : Hid (M ≤ 64) := Lib.hid (by omega)
            clear hm1 hm2 hm3 hnf hNF hf hM
            go_wp2
            have HNN : Hid (noneF H L = noneF H (L.drop 0)) := Lib.hid rfl
            go_loopw [52] (fun i wr => ∃ (j : Nat), j ≤ L.length ∧ i = .int .i64 j ∧ Hid (NInv w (.pointer (some ⟨w.heap.size + 1, 0, none⟩)) H M wr) ∧ Hid (noneF H L = noneF H (L.drop j))) (fun i _ => L.length - (intOf i).toNat)
            case atStart => exact ⟨0, by omega, rfl, hn, HNN⟩
            case round =>
              clear hn HNN hj hjl
              obtain ⟨j, hj, rfl, hn, hf⟩ := hrel
              by_cases hjl : j < L.length
              · obtain ⟨b, o, rfl, hb, hcs⟩ := HR.out (fun e => by rw [e] at hjl; simp at hjl)
                obtain ⟨F, hp, hF, hbl⟩ := hn.out
                obtain ⟨a2, n2, c2, a3, n3, c3, a4, n4, c4, y0, y1, y2, y3, y4⟩ := hcs j hjl
                have q0 := (hbl.cell (p := ⟨b, o + j * 5, none⟩) hb).trans y0
                have q1 := (hbl.cell (p := ⟨b, o + j * 5 + 1, none⟩) hb).trans y1
                have q2 := (hbl.cell (p := ⟨b, o + j * 5 + 2, none⟩) hb).trans y2
                have q3 := (hbl.cell (p := ⟨b, o + j * 5 + 3, none⟩) hb).trans y3
                have q4 := (hbl.cell (p := ⟨b, o + j * 5 + 4, none⟩) hb).trans y4
                have hz := HL.out L[j] (List.getElem_mem hjl)
                have hf2 := hf.out
                rw [List.drop_eq_getElem_cons hjl] at hf2
                obtain ⟨⟨nm, sp⟩, hx⟩ : ∃ x, L[j] = x := ⟨_, rfl⟩
                rw [hx] at hf2 hz q0 q1
                rw [noneF_cons] at hf2
                simp only at hf2 hz q0 q1
                have hhas := hn.out.has (.cells #[.string nm, .string sp, .slice a2 n2 c2, .slice a3 n3 c3, .slice a4 n4 c4] 48) sp hz.2
                have HAL := Lib.hid (hn.out.al (.cells #[.string nm, .string sp, .slice a2 n2 c2, .slice a3 n3 c3, .slice a4 n4 c4] 48))
                have HF3 := Lib.hid hf2
                by_cases hlk : (look H sp).isSome = true
                · have HE := HF3.out
                  rw [if_pos hlk] at HE
                  rw [hlk] at hhas
                  have HH := Lib.hid hhas
                  have HREL := Lib.hid HE
                  clear hcs y0 y1 y2 y3 y4 hp hF hbl hx hz hf hn hf2 hhas HE hlk
                  go_wp2_with fail
                  refine HH.out.mono ?_
                  rintro e w5 ⟨rfl, rfl⟩
                  go_wp2
                  go_roundw
                  case rel => exact ⟨j + 1, by omega, by go_num, HAL, HREL⟩
                  case measure => simp [intOf]; omega
                · have HE := HF3.out
                  rw [if_neg hlk] at HE
                  have hlf : (look H sp).isSome = false := by simpa using hlk
                  rw [hlf] at hhas
                  have HH := Lib.hid hhas
                  have hr := HNF.out
                  unfold restF at hr
                  rw [HE] at hr
                  simp only at hr
                  have HNX := Lib.hid hr
                  clear hcs y0 y1 y2 y3 y4 hp hF hbl hx hz hf hn hf2 hhas HE hlk hlf hr
                  go_wp2_with fail
                  refine HH.out.mono ?_
                  rintro e w5 ⟨rfl, rfl⟩
                  go_wp2
                  go_quiet (fail)
                  go_wp2
                  refine bodyPost_ret (v := .tuple #[.pointer none, .string nm, .int .i64 9]) (by simp [results, Tryd.results8, go_sem]) rfl ?_
                  obtain ⟨F5, _, _, hb5⟩ := HAL.out
                  exact NPost.mk_none HNX.out rfl (Chg.below (F := fun _ => False) ((Chg.of_below hb5).drewN _) (Nat.le_refl _) (fun _ e => e.elim))
              · have hm := hf.out
                rw [List.drop_of_length_le (by omega), noneF_nil] at hm
                have hr := HNF.out
                unfold restF at hr
                rw [hm] at hr
                simp only at hr
                have HNG := Lib.hid hr
                clear hm hr hf HNF
                go_wp2
                have HNN : Hid (loopF H L = loopF H (L.drop 0)) := Lib.hid rfl
                go_loopw [66] (fun i wr => ∃ (j : Nat), j ≤ L.length ∧ i = .int .i64 j ∧ Hid (NInv w (.pointer (some ⟨w.heap.size + 1, 0, none⟩)) H M wr) ∧ Hid (loopF H L = loopF H (L.drop j))) (fun i _ => L.length - (intOf i).toNat)
                case atStart => exact ⟨0, by omega, rfl, hn, HNN⟩
                case round =>
                  clear hn HNN hj hjl
                  obtain ⟨j, hj, rfl, hn, hf⟩ := hrel
                  by_cases hjl : j < L.length
                  · obtain ⟨b, o, rfl, hb, hcs⟩ := HR.out (fun e => by rw [e] at hjl; simp at hjl)
                    obtain ⟨F, hp, hF, hbl⟩ := hn.out
                    obtain ⟨a2, n2, c2, a3, n3, c3, a4, n4, c4, y0, y1, y2, y3, y4⟩ := hcs j hjl
                    have q0 := (hbl.cell (p := ⟨b, o + j * 5, none⟩) hb).trans y0
                    have q1 := (hbl.cell (p := ⟨b, o + j * 5 + 1, none⟩) hb).trans y1
                    have q2 := (hbl.cell (p := ⟨b, o + j * 5 + 2, none⟩) hb).trans y2
                    have q3 := (hbl.cell (p := ⟨b, o + j * 5 + 3, none⟩) hb).trans y3
                    have q4 := (hbl.cell (p := ⟨b, o + j * 5 + 4, none⟩) hb).trans y4
                    have hz := HL.out L[j] (List.getElem_mem hjl)
                    have hf2 := hf.out
                    rw [List.drop_eq_getElem_cons hjl] at hf2
                    obtain ⟨⟨nm, sp⟩, hx⟩ : ∃ x, L[j] = x := ⟨_, rfl⟩
                    rw [hx] at hf2 hz q0 q1
                    rw [loopF_cons] at hf2
                    simp only at hf2 hz q0 q1
                    have hlo := hn.out.loops (.cells #[.string nm, .string sp, .slice a2 n2 c2, .slice a3 n3 c3, .slice a4 n4 c4] 48) HSZ.out nm sp (.slice a2 n2 c2) (.slice a3 n3 c3) (.slice a4 n4 c4) hz.2 (by have := HHL.out; omega)
                    have HF3 := Lib.hid hf2
                    by_cases hlk : loopsF H (nm, sp) = true
                    · have HE := HF3.out
                      rw [if_pos hlk] at HE
                      rw [hlk] at hlo
                      have HH := Lib.hid hlo
                      have hr := HNG.out
                      rw [HE] at hr
                      simp only at hr
                      have HNX := Lib.hid hr
                      clear hcs y0 y1 y2 y3 y4 hp hF hbl hx hz hf hn hf2 hlo HE hlk hr
                      go_wp2_with fail
                      refine HH.out.mono ?_
                      rintro e w5 ⟨rfl, h5, hbox⟩
                      have hcx : w5.cell? ⟨wr.heap.size, 0, none⟩ = some (.string nm) := by unfold World.cell?; rw [hbox]; rfl
                      have H5 := Lib.hid h5
                      clear hbox h5
                      go_wp2
                      go_quiet (fail)
                      go_wp2
                      refine bodyPost_ret (v := .tuple #[.pointer none, .string nm, .int .i64 14]) (by simp [results, Tryd.results8, go_sem]) rfl ?_
                      obtain ⟨F5, _, _, hb5⟩ := H5.out
                      exact NPost.mk_none HNX.out rfl (Chg.below (F := fun _ => False) ((Chg.of_below hb5).drewN _) (Nat.le_refl _) (fun _ e => e.elim))
                    · have HE := HF3.out
                      rw [if_neg hlk] at HE
                      have hlf : loopsF H (nm, sp) = false := by simpa using hlk
                      rw [hlf] at hlo
                      have HH := Lib.hid hlo
                      have HREL := Lib.hid HE
                      clear hcs y0 y1 y2 y3 y4 hp hF hbl hx hz hf hn hf2 hlo HE hlk hlf
                      go_wp2_with fail
                      refine HH.out.mono ?_
                      rintro e w5 ⟨rfl, h5, hbox⟩
                      have H5 := Lib.hid h5
                      clear hbox h5
                      go_wp2
                      go_roundw
                      case rel => exact ⟨j + 1, by omega, by go_num, H5, HREL⟩
                      case measure => simp [intOf]; omega
                  · have hm := hf.out
                    rw [List.drop_of_length_le (by omega), loopF_nil] at hm
                    have hr := HNG.out
                    rw [hm] at hr
                    simp only at hr
                    have HNX := Lib.hid hr
                    clear hm hr hf
                    go_wp2
                    refine bodyPost_ret (v := .tuple #[.pointer (some ⟨w.heap.size + 1, 0, none⟩), .string ⟨#[]⟩, .int .i64 0]) (by simp [results, Tryd.results8, go_sem]) rfl ?_
                    rw [HNX.out]
                    obtain ⟨F5, hp5, hF5, hb5⟩ := hn.out
                    exact ⟨hb5, _, F5, rfl, hp5.mono HM.out, hF5, HSZ.out, HHL.out⟩
end Go.Proofs.YtefiliomfiomfadDoor
