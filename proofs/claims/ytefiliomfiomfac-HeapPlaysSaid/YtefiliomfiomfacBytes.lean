/- heap's Bytes. -/
import Derived.Test.YtefiliomfiomfacText
namespace Go.Proofs.Ytefiliomfiomfac
open Go.RowKit Go.Maps

def byteOf (r : List Int) (i : Nat) : UInt8 := UInt8.ofNat (r.getD (i / 8) 0 / 2 ^ (i % 8 * 8) % 256).toNat
theorem byte_val (x : Int) : Value.int .u8 ((UInt8.ofNat (x % 256).toNat).toNat : Int) = .int .u8 (x % 256) := by
  rw [UInt8.toNat_ofNat']
  congr 1
  omega
def bytesOf (r : List Int) (n : Nat) : List UInt8 := (List.range n).map (byteOf r)
def bytesL : List Int → List UInt8 × Int
  | [] => ([], 5)
  | n :: r => if n < 0 ∨ 8 * ((r.length : Int) + 1) < n ∨ (n + 7) / 8 ≠ (r.length : Int) then ([], 5) else (bytesOf r n.toNat, 0)
def bytesF (T : List Th) (a : Int) : List UInt8 × Int := match words T a with | none => ([], 3) | some l => bytesL l
def bytesV (r : List UInt8 × Int) : Value := .tuple #[.string ⟨r.1.toArray⟩, .int .i64 r.2]

theorem bytes10_none {w : World} {F : Nat → Prop} {p : Value} {T : List Th} {most N : Nat} (h : HT w F p T most N) (a : Int) (ha : (Lit.int .i64 a).wf = true) (x : Int) (hx : (lenF T a).2 = x) (hx0 : x ≠ 0) :
    Calls Try.prog 10 #[p, .int .i64 a] w fun e w' => e = .returned (bytesV ([], x)) ∧ w' = w := by
  have hl := len11 h a ha
  unfold two at hl
  rw [hx] at hl
  generalize (lenF T a).1 = y at *
  have HL := Lib.hid hl
  obtain ⟨ad, rfl⟩ := h.p
  have hd : (x != 0) = true := by simpa using hx0
  clear hl hx h ha
  go_enter Try.func10, Try.ntmps10
  go_wp2_with fail
  refine HL.out.mono ?_
  rintro e w1 ⟨rfl, rfl⟩
  go_wp2
  go_ret2
  exact ⟨rfl, rfl⟩
theorem len_words {w : World} {F : Nat → Prop} {p : Value} {T : List Th} {most N : Nat} (h : HT w F p T most N) (a : Int) (ha : (Lit.int .i64 a).wf = true) (n : Int) (r : List Int) (hw : words T a = some (n :: r)) :
    Calls Try.prog 11 #[p, .int .i64 a] w fun e w' => e = .returned (.tuple #[.int .i64 n, .int .i64 0]) ∧ w' = w := by
  have := len11 h a ha
  unfold lenF at this
  rw [hw] at this
  exact this
theorem words_find {T : List Th} {a : Int} {l : List Int} (h : words T a = some l) : ∃ k, find T a = some k := by
  unfold words at h
  cases hf : find T a with
  | none => rw [hf] at h; cases h
  | some k => exact ⟨k, rfl⟩
set_option maxHeartbeats 1000000 in
theorem bytes10_form {w : World} {F : Nat → Prop} {p : Value} {T : List Th} {most N : Nat} (h : HT w F p T most N) (a : Int) (ha : (Lit.int .i64 a).wf = true) (n : Int) (r : List Int) (hw : words T a = some (n :: r))
    (hbad : n < 0 ∨ 8 * ((r.length : Int) + 1) < n ∨ (n + 7) / 8 ≠ (r.length : Int)) :
    Calls Try.prog 10 #[p, .int .i64 a] w fun e w' => e = .returned (bytesV ([], 5)) ∧ w' = w := by
  have HL := Lib.hid (len_words h a ha n r hw)
  obtain ⟨k, hf⟩ := words_find hw
  obtain ⟨hb, mb, ms, g, c, nb, ns, o, id, l, hk, rfl, hin, _, _, _, _, _, _, _, hw', _, _, ht, _, rfl, hol, hu, hid, hcs, hhd, hc⟩ := behind_there h a k hf
  rw [hw] at hw'
  obtain rfl := Option.some.inj hw'
  have HC := Lib.hid hc
  have hLn : (n :: r).length = r.length + 1 := rfl
  rw [hLn] at HC hol
  generalize r.length = L at *
  clear h hf hw hw' hc hcs hhd hin ht ha hLn
  by_cases h0 : n < 0
  · clear hbad
    go_enter Try.func10, Try.ntmps10
    go_wp2_with fail
    refine HL.out.mono ?_
    rintro e w1 ⟨rfl, rfl⟩
    go_wp2_with fail
    refine HC.out.mono ?_
    rintro e w2 ⟨sl, rfl, ⟨sa, sc, rfl, hnc, _⟩, rfl⟩
    go_wp2
    go_ret2
    exact ⟨rfl, rfl⟩
  obtain ⟨m, rfl⟩ : ∃ m : Nat, n = (m : Int) := ⟨n.toNat, by omega⟩
  by_cases h1 : (L + 1) * 8 < m
  · have h1' : (((L + 1 : Nat) : Int)) * 8 < (m : Int) := by omega
    clear hbad
    push_cast at h1'
    go_enter Try.func10, Try.ntmps10
    go_wp2_with fail
    refine HL.out.mono ?_
    rintro e w1 ⟨rfl, rfl⟩
    go_wp2_with fail
    refine HC.out.mono ?_
    rintro e w2 ⟨sl, rfl, ⟨sa, sc, rfl, hnc, _⟩, rfl⟩
    go_wp2
    go_ret2
    exact ⟨rfl, rfl⟩
  · have h1' : ¬ (((L + 1 : Nat) : Int)) * 8 < (m : Int) := by omega
    have h2 : ((m : Int) + 8 - 1) / 8 ≠ (L : Int) := by omega
    push_cast at h1'
    have h3 : (((m : Int) + 8 - 1) / 8 == (L : Int)) = false := by simpa using h2
    have h4 : (((m : Int) + 8 - 1) / 8 != (L : Int)) = true := by simpa using h2
    clear hbad
    go_enter Try.func10, Try.ntmps10
    go_wp2_with fail
    refine HL.out.mono ?_
    rintro e w1 ⟨rfl, rfl⟩
    go_wp2_with fail
    refine HC.out.mono ?_
    rintro e w2 ⟨sl, rfl, ⟨sa, sc, rfl, hnc, _⟩, rfl⟩
    go_wp2
    go_ret2
    exact ⟨rfl, rfl⟩
theorem info5 : (Try.prog.info? 5).map (fun i => (i.zero, i.size, i.bytes)) = some (some (.int .u8 0), 1, 1) := by kernel_rfl
def bv (c : UInt8) : Value := .int .u8 c.toNat
/-- The slice v owns the bytes l. -/
def OB (w : World) (v : Value) (l : List UInt8) : Prop := w.ownsRow 0 5 1 v l.length (l.map bv)
def BR (r : List Int) (m k : Nat) : List UInt8 := (bytesOf r m).take k ++ List.replicate (m - k) 0
theorem len_bytesOf (r : List Int) (m : Nat) : (bytesOf r m).length = m := by simp [bytesOf]
theorem len_BR (r : List Int) (m k : Nat) (h : k ≤ m) : (BR r m k).length = m := by simp [BR, len_bytesOf]; omega
theorem BR_step (r : List Int) (m k : Nat) (h : k < m) : (BR r m k).set k (byteOf r k) = BR r m (k + 1) := by
  unfold BR
  have hl : ((bytesOf r m).take k).length = k := by simp [len_bytesOf]; omega
  have hk : k < (bytesOf r m).length := by rw [len_bytesOf]; exact h
  rw [List.set_append_right _ _ (by omega), hl, Nat.sub_self, List.take_succ_eq_append_getElem hk, List.append_assoc]
  congr 1
  obtain ⟨d, hd⟩ : ∃ d, m - k = d + 1 := ⟨m - k - 1, by omega⟩
  have hd2 : m - (k + 1) = d := by omega
  rw [hd, hd2, List.replicate_succ, List.set_cons_zero]
  simp [bytesOf]
theorem BR_end (r : List Int) (m : Nat) : BR r m m = bytesOf r m := by
  unfold BR
  rw [Nat.sub_self, List.take_of_length_le (by rw [len_bytesOf]; exact Nat.le_refl _)]
  simp
theorem OB.lt' {w : World} {v : Value} {l : List UInt8} {g : Nat} (h : OB w v l) (hg : v.ownBlock = some g) : g < w.heap.size := (World.ownsRow.lt h g hg).2
theorem OB.stored {w : World} {g n c : Nat} {l : List UInt8} (h : OB w (.slice (some ⟨g, 0, none⟩) n c) l) (hn : l.length = n) (j : Nat) (x : UInt8) : OB (w.setCell ⟨g, j, none⟩ (bv x)) (.slice (some ⟨g, 0, none⟩) n c) (l.set j x) := by
  subst hn
  have := (World.ownsRow.stored h j (bv x)).1
  unfold OB
  rw [List.length_set, List.map_set]
  exact this
theorem OB.text {w : World} {g n c : Nat} {l : List UInt8} (h : OB w (.slice (some ⟨g, 0, none⟩) n c) l) (hn : l.length = n) : (convert 67 9 (.slice (some ⟨g, 0, none⟩) n c)).run Try.prog w = .ok (.string ⟨l.toArray⟩) w := by
  subst hn
  refine run_convert_bytes_back w 67 9 5 ⟨g, 0, none⟩ c l Try.underlying67 Try.underlying5 Try.underlying9 ?_
  intro j hj
  refine World.ownsRow.cells h (g := g) rfl j _ ?_
  rw [List.getElem?_map, List.getElem?_eq_getElem hj]
  rfl

set_option maxRecDepth 100000 in
set_option maxHeartbeats 2000000 in
theorem bytes10_ok {w : World} {F : Nat → Prop} {p : Value} {T : List Th} {most N : Nat} (h : HT w F p T most N) (a : Int) (ha : (Lit.int .i64 a).wf = true) (m : Nat) (r : List Int) (hw : words T a = some ((m : Int) :: r))
    (h1 : m ≤ 8 * (r.length + 1)) (h2 : (m + 7) / 8 = r.length) :
    Calls Try.prog 10 #[p, .int .i64 a] w fun e w' => e = .returned (bytesV (bytesOf r m, 0)) ∧ Chg (fun _ => False) w w' := by
  have HL := Lib.hid (len_words h a ha m r hw)
  obtain ⟨k, hf⟩ := words_find hw
  obtain ⟨hb, mb, ms, g, c, nb, ns, o, id, l, hk, rfl, hin, _, hFg, _, _, _, _, _, hw', _, _, ht, _, rfl, hol, hu, hid, hcs, hhd, hc⟩ := behind_there h a k hf
  rw [hw] at hw'
  obtain rfl := Option.some.inj hw'
  obtain ⟨i0, hi, hz0, hz1, hz2⟩ := info_parts info5
  have HC := Lib.hid hc
  have hgl : g < w.heap.size := h.2.1 g hFg
  have hrw : ∀ q (hq : q < r.length), w.cell? ⟨g, o + 1 + (1 + q), none⟩ = some (.int .i64 r[q]) := by
    intro q hq
    have := (hcs (q + 1) (by simp; omega)).1
    rw [Nat.add_comm 1 q]
    simpa using this
  have HR := Lib.hid hrw
  have hLn : ((m : Int) :: r).length = r.length + 1 := rfl
  rw [hLn] at HC hol
  obtain ⟨L, hL⟩ : ∃ L, r.length = L := ⟨_, rfl⟩
  rw [hL] at HC hol h1 h2
  have HLL := Lib.hid hL
  have d1 : ¬ (((L : Int) + 1) * 8 < (m : Int)) := by omega
  have d2 : ((m : Int) + 8 - 1) / 8 = (L : Int) := by omega
  have d3 : m ≤ 32768 := by omega
  clear h hf hw hw' hc hcs hhd hin ht ha hLn hrw hL
  go_enter Try.func10, Try.ntmps10
  go_wp2_with fail
  refine HL.out.mono ?_
  rintro e w1 ⟨rfl, rfl⟩
  go_wp2_with fail
  refine HC.out.mono ?_
  rintro e w2 ⟨sl, rfl, ⟨sa, sc, rfl, hnc, hsa⟩, rfl⟩
  obtain rfl := hsa (by omega)
  clear hsa
  go_wp2_with (at_make; refine wpList_make_full w2 rfl _ _ 67 rfl 0 5 i0 (.int .u8 0) 1 Try.underlying67 hi hz0 hz1 .i64 .i64 _ _ m rfl rfl rfl rfl (by rw [hz2]; omega) (by unfold maxLen; omega) (Nat.zero_le _) ?_)
  intro w3 ho hg
  have HO3 : Hid (OB w3 (.slice (some ⟨w2.heap.size, 0, none⟩) m m) (BR r m 0)) := by
    show OB _ _ _
    have e : (madeCells #[Value.int .u8 0] m).toList = (BR r m 0).map bv := by
      rw [toList_madeCells_one]
      unfold BR
      rw [List.take_zero, List.nil_append, List.map_replicate]
      rfl
    unfold OB
    rw [len_BR r m 0 (Nat.zero_le _), ← e]
    exact ho
  have HC3 : Hid (Chg (fun _ => False) w2 w3) := Chg.grown hg (fun _ e => by cases e)
  clear ho hg
  go_wp2
  go_loopw [50] (fun i wr => ∃ k : Nat, k ≤ m ∧ i = .int .i64 k ∧ Hid (OB wr (.slice (some ⟨w2.heap.size, 0, none⟩) m m) (BR r m k)) ∧ Hid (Chg (fun k => w2.heap.size ≤ k) w2 wr)) (fun i _ => m - (intOf i).toNat)
  case atStart => exact ⟨0, Nat.zero_le _, rfl, HO3, HC3.out.mono (fun _ e => e.elim)⟩
  case round =>
    obtain ⟨k, hk, rfl, ho, hch⟩ := hrel
    by_cases hlt : k < m
    · have hq : k / 8 < r.length := by have := HLL.out; omega
      have hx : wr.cell? ⟨g, o + 1 + (1 + k / 8), none⟩ = some (.int .i64 r[k / 8]) := (World.cell?_of_block (hch.out.block g hgl (fun e => by omega))).trans (HR.out (k / 8) hq)
      have hbo : Hid (byteOf r k = UInt8.ofNat (r[k / 8] / 2 ^ (k % 8 * 8) % 256).toNat) := by
        show _ = _
        unfold byteOf
        rw [List.getD_eq_getElem?_getD, List.getElem?_eq_getElem hq]
        rfl
      have hob : w2.heap.size < wr.heap.size := ho.out.lt' rfl
      have hcu : ∃ u, wr.cell? ⟨w2.heap.size, k, none⟩ = some (bv u) := by
        have := World.ownsRow.cellAt (cap := m) (n := m) (by have h := ho.out; unfold OB at h; rw [len_BR r m k hk] at h; exact h) k (by omega)
        rw [List.getElem?_map, List.getElem?_eq_getElem (by rw [len_BR r m k hk]; exact hlt)] at this
        exact ⟨_, this⟩
      obtain ⟨u, hu1⟩ := hcu
      unfold bv at hu1
      have hf : wr.frozen? ⟨w2.heap.size, k, none⟩ = false := World.ownsRow.frozenAt (cap := m) (n := m) (by have h := ho.out; unfold OB at h; rw [len_BR r m k hk] at h; exact h) k
      generalize r[k / 8] = x at *
      obtain ⟨q, hq'⟩ : ∃ q, k / 8 = q := ⟨_, rfl⟩
      obtain ⟨j, hj⟩ : ∃ j, k % 8 = j := ⟨_, rfl⟩
      rw [hq'] at hx
      rw [hj] at hbo
      have e1 : (k : Int) / 8 = (q : Int) := by omega
      have e2 : (k : Int) % 8 = (j : Int) := by omega
      have hj8 : j < 8 := by omega
      have hqL : q < L := by have := HLL.out; omega
      clear hq hq' hj
      have HST : Hid (OB (wr.setCell ⟨w2.heap.size, k, none⟩ (.int .u8 (x / 2 ^ (j * 8) % 256))) (.slice (some ⟨w2.heap.size, 0, none⟩) m m) (BR r m (k + 1))) := by
        show OB _ _ _
        have := OB.stored ho.out (len_BR r m k hk) k (byteOf r k)
        rw [BR_step r m k hlt] at this
        unfold bv at this
        rw [hbo.out, byte_val] at this
        exact this
      have HCK : Hid (Chg (fun k => w2.heap.size ≤ k) w2 (wr.setCell ⟨w2.heap.size, k, none⟩ (.int .u8 (x / 2 ^ (j * 8) % 256)))) := hch.out.set _ (Nat.le_refl _)
      clear ho hch hbo
      go_wp2
      refine ⟨⟨k + 1, by omega, by go_num, HST, HCK⟩, ?_⟩
      simp [intOf]
      omega
    · have : k = m := by omega
      subst this
      have hb := ho.out
      rw [BR_end] at hb
      have htx := hb.text (len_bytesOf r k)
      have HCH : Hid (Chg (fun _ => False) w2 wr) := ⟨hch.out.os, hch.out.tape, hch.out.output, hch.out.size, fun i hi _ => hch.out.block i hi (fun e => by omega)⟩
      clear ho hch hb
      go_wp2
      go_ret2
      exact ⟨rfl, HCH.out⟩
end Go.Proofs.Ytefiliomfiomfac
