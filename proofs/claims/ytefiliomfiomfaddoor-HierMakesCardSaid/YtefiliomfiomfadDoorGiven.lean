/- Classes of pairs. -/
import Derived.Test.YtefiliomfiomfadDoorNew
import Derived.Deep.Slices
import Derived.ProofKit
import Derived.Deep.RegionHeld3
import Derived.Deep.AppendLies
import Derived.OwnWalk
namespace Go.Proofs.YtefiliomfiomfadDoor
open Go.RowKit Go.ChangeShapes Go.WideShapes Go.ChangeAt

/-- The slice at a reads as these pairs. -/
def RP (w : World) (a : Option Addr) (L : List (BA × BA)) : Prop := L ≠ [] → ∃ b o, a = some ⟨b, o, none⟩ ∧ b < w.heap.size ∧ ∀ i (h : i < L.length), w.cell? ⟨b, o + i * 2, none⟩ = some (.string L[i].1) ∧ w.cell? ⟨b, o + i * 2 + 1, none⟩ = some (.string L[i].2)
theorem spot_none {W : World} {xb xo : Nat} {xs : Option Nat} {v : Value} (h : W.cell? ((⟨xb, xo, xs⟩ : Addr).add 0) = some v) : xs = none := by
  cases xs with
  | none => rfl
  | some y =>
    exfalso
    unfold World.cell? at h
    simp [Addr.add] at h
    split at h <;> simp_all
set_option maxRecDepth 100000 in
theorem open_pair {H : Type} {en : TypeId × Value → H} {W : World} {base : Nat} {spare : Nat → Bool} {held : Bool} {fuel : Nat} {cs : List Value} {x : DataW H × List MemPlace} (h : DataW.trod en Tryd.prog W base spare held fuel 54 cs = some x) :
    ∃ y : BA × BA, cs = [.string y.1, .string y.2] ∧ y.1.size ≤ maxLen ∧ y.2.size ≤ maxLen := by
  obtain ⟨xs, n, _, _, hlen, hxl, hf⟩ := DataW.trod_struct Tryd.underlying54 h
  have hc : Tryd.prog.cellsOf 54 = 2 := by kernel_rfl
  rw [hc] at hlen
  match cs, hlen with
  | [c0, c1], _ =>
    have hx2 : xs.length = 2 := hxl
    match xs, hx2 with
    | [y0, y1], _ =>
      have k9 : Tryd.prog.cellsOf 9 = 1 := by kernel_rfl
      have f0 : DataW.trod en Tryd.prog W base spare held n 9 (([c0, c1].drop 0).take (Tryd.prog.cellsOf 9)) = some y0 := hf 0 _ rfl
      rw [k9] at f0
      have f1 : DataW.trod en Tryd.prog W base spare held n 9 (([c0, c1].drop 1).take (Tryd.prog.cellsOf 9)) = some y1 := hf 1 _ rfl
      rw [k9] at f1
      obtain ⟨a0, e0, _, w0⟩ := DataW.trod_string Tryd.underlying9 f0
      obtain ⟨a1, e1, _, w1⟩ := DataW.trod_string Tryd.underlying9 f1
      have z0 : [c0] = _ := e0
      injection z0 with z0
      subst z0
      have z1 : [c1] = _ := e1
      injection z1 with z1
      subst z1
      exact ⟨(a0, a1), rfl, w0, w1⟩
set_option maxRecDepth 100000 in
theorem arg_pairs {H : Type} {en : TypeId × Value → H} {W : World} {base : Nat} {spare : Nat → Bool} {held : Bool} {a : Option Addr} {len cap : Nat} {d : DataW H} {ps : List MemPlace}
    (h : DataW.Trod en Tryd.prog W base spare held 22 (.slice a len cap) d ps) : ∃ l : List (BA × BA), l.length = len ∧ (RP W a l ∧ sizes l) ∧ len ≤ maxLen := by
  obtain ⟨fuel, hf⟩ := h
  rcases Deep.open_slice Tryd.underlying22 hf with ⟨hcs, _⟩ | ⟨x, l, c, m, n, D, Pl, hcs, _, hl, hm, hmm, _, hx⟩
  · simp [Value.cells] at hcs
    obtain ⟨rfl, rfl, rfl⟩ := hcs
    exact ⟨[], rfl, ⟨fun h => absurd rfl h, fun p hp => by cases hp⟩, by unfold maxLen; omega⟩
  · simp [Value.cells] at hcs
    obtain ⟨rfl, rfl, rfl⟩ := hcs
    have hc2 : Tryd.prog.cellsOf 54 = 2 := by kernel_rfl
    rw [hc2] at hx
    have hlm : len ≤ m := by rw [hmm]; split <;> omega
    have hx2 : ∀ i, i < m → ∃ y : BA × BA, (∀ q, q < 2 → W.cell? ((x.add (i * 2)).add q) = ([.string y.1, .string y.2] : List Value)[q]?) ∧ y.1.size ≤ maxLen ∧ y.2.size ≤ maxLen := by
      intro i hi
      obtain ⟨cs', h1, h2⟩ := hx i hi
      obtain ⟨_, _, h3⟩ := World.cells?_some h1
      obtain ⟨y, rfl, hw⟩ := open_pair h2
      exact ⟨y, h3, hw⟩
    obtain ⟨V, hV⟩ := Deep.choose_lt hx2
    have hlen : ((List.range len).map V).length = len := by simp
    refine ⟨(List.range len).map V, hlen, ⟨fun hne => ?_, fun p hp => ?_⟩, by omega⟩
    · have hpos : 0 < len := by
        rcases Nat.eq_zero_or_pos len with h | h
        · subst h; simp at hne
        · exact h
      obtain ⟨xb, xo, xs⟩ := x
      have hc0 := (hV 0 (by omega)).1 0 (by omega)
      have hsp : xs = none := by
        have : ((⟨xb, xo, xs⟩ : Addr).add (0 * 2)).add 0 = (⟨xb, xo, xs⟩ : Addr).add 0 := by simp [Addr.add]
        rw [this] at hc0
        exact spot_none (v := .string (V 0).1) hc0
      subst hsp
      have hb := World.block_lt_of_cell? W _ (u := .string (V 0).1) hc0
      refine ⟨xb, xo, rfl, by simpa [Addr.add] using hb, ?_⟩
      intro i hi
      rw [hlen] at hi
      obtain ⟨hq, _⟩ := hV i (by omega)
      have e : ∀ q, ((⟨xb, xo, none⟩ : Addr).add (i * 2)).add q = ⟨xb, xo + i * 2 + q, none⟩ := by
        intro q
        unfold Addr.add
        split <;> split <;> simp_all <;> omega
      have hg : ((List.range len).map V)[i]'(by rw [hlen]; exact hi) = V i := by simp
      rw [hg]
      have g := fun q hq2 => (congrArg W.cell? (e q)).symm.trans (hq q hq2)
      exact ⟨g 0 (by omega), g 1 (by omega)⟩
    · obtain ⟨i, hi, rfl⟩ := List.mem_map.1 hp
      exact (hV i (by have := List.mem_range.1 hi; omega)).2
theorem info48 : (Tryd.prog.info? 48).map (fun i => (i.zero, i.size, i.bytes)) = some (some (.agg #[.string ⟨#[]⟩, .string ⟨#[]⟩, .slice none 0 0, .slice none 0 0, .slice none 0 0]), 5, 104) := by kernel_rfl
def cells5 (p : BA × BA) : List Value := [.string p.1, .string p.2, .slice none 0 0, .slice none 0 0, .slice none 0 0]
/-- The slice v owns these classes. -/
def OC (w : World) (v : Value) (L : List (BA × BA)) : Prop := w.ownsRow 0 48 5 v L.length (L.flatMap cells5)
theorem cells5_at (L : List (BA × BA)) (i : Nat) (h : i < L.length) (j : Nat) (hj : j < 5) : (L.flatMap cells5)[i * 5 + j]? = (cells5 L[i])[j]? := by
  induction L generalizing i with
  | nil => simp at h
  | cons p r ih =>
    rw [List.flatMap_cons]
    cases i with
    | zero =>
      rw [List.getElem?_append_left (by show 0 * 5 + j < 5; omega)]
      simp
    | succ i =>
      have hl : (cells5 p).length = 5 := rfl
      rw [List.getElem?_append_right (by rw [hl]; omega), hl, show (i + 1) * 5 + j - 5 = i * 5 + j from by omega, ih i (by simpa using h)]
      rfl
theorem OC.rc {w : World} {v : Value} {L : List (BA × BA)} (h : OC w v L) : ∃ a c, v = .slice a L.length c ∧ RC w a L := by
  have hlt := fun k hk => (World.ownsRow.lt h k hk).2
  obtain ⟨h1, h2⟩ := h
  rcases h2 with ⟨rfl, hn⟩ | ⟨g, cap, cur, rfl, hb, hg, hnc, hcm, hcs, ht⟩
  · have : L = [] := List.eq_nil_of_length_eq_zero hn
    subst this
    exact ⟨none, 0, rfl, fun h => absurd rfl h⟩
  · refine ⟨_, cap, rfl, fun _ => ⟨g, 0, rfl, hlt g rfl, fun i hi => ⟨none, 0, 0, none, 0, 0, none, 0, 0, ?_⟩⟩⟩
    have hc : ∀ j, j < 5 → w.cell? ⟨g, 0 + i * 5 + j, none⟩ = (cells5 L[i])[j]? := by
      intro j hj
      rw [cell_of_row w g (0 + i * 5 + j) cur 48 (0, 0) hg, ← cells5_at L i hi j hj, ← ht]
      rw [List.getElem?_take, if_pos (by omega)]
      simp
    exact ⟨hc 0 (by omega), hc 1 (by omega), hc 2 (by omega), hc 3 (by omega), hc 4 (by omega)⟩
theorem OC.drew_ {w : World} {v : Value} {L : List (BA × BA)} (h : OC w v L) : OC w.drew v L := h
theorem OC.nil (w : World) : OC w (.slice none 0 0) [] := World.ownsRow_nil _ _ _ _
set_option maxRecDepth 100000 in
set_option maxHeartbeats 1000000 in
theorem given9 (a : Option Addr) (cp : Nat) (L : List (BA × BA)) (w : World) (hR : RP w a L) (hlen : L.length ≤ 60) :
    Calls Tryd.prog 9 #[.slice a L.length cp] w fun e w' => ∃ a' c', e = .returned (.slice a' L.length c') ∧ RC w' a' L ∧ Below w.heap.size w w' := by
  have HR := Lib.hid hR
  clear hR
  go_enter Tryd.func9, Tryd.ntmps9
  go_wp2
  go_loopw [3, 4] (fun v i wr => ∃ k : Nat, k ≤ L.length ∧ i = .int .i64 k ∧ Hid (OC wr v (L.take k)) ∧ Hid (∀ g, v.ownBlock = some g → w.heap.size ≤ g) ∧ Hid (Below w.heap.size w wr)) (fun _ i _ => L.length - (intOf i).toNat)
  case atStart => exact ⟨0, Nat.zero_le _, rfl, Lib.hid (by simpa using OC.nil w), Lib.hid (fun g hg => by cases hg), Lib.hid (Below.refl _ _)⟩
  case round =>
    obtain ⟨k, hk, rfl, ho, hg, hb⟩ := hrel
    by_cases hkl : k < L.length
    · obtain ⟨b, o, rfl, hbl, hcs⟩ := HR.out (fun e => by rw [e] at hkl; simp at hkl)
      obtain ⟨y0, y1⟩ := hcs k hkl
      have q0 := (hb.out.cell (p := ⟨b, o + k * 2, none⟩) hbl).trans y0
      have q1 := (hb.out.cell (p := ⟨b, o + k * 2 + 1, none⟩) hbl).trans y1
      obtain ⟨⟨nm, sp⟩, hx⟩ : ∃ x, L[k] = x := ⟨_, rfl⟩
      have htk : L.take (k + 1) = L.take k ++ [(nm, sp)] := by rw [List.take_succ_eq_append_getElem hkl, hx]
      rw [hx] at q0 q1
      have HTK := Lib.hid htk
      clear hcs y0 y1 hx htk
      simp only at q0 q1
      obtain ⟨i0, hi0, hz0, hz1, hz2⟩ := info_parts info48
      have hlt : (L.take k).length = k := by rw [List.length_take]; omega
      have hown : wr.ownsRow 0 48 5 u3 k ((L.take k).flatMap cells5) := by
        have := ho.out
        unfold OC at this
        rw [hlt] at this
        exact this
      have ag : u3.ownBlock ≠ some b := fun e => by have := hg.out b e; omega
      have hbw : b < wr.heap.size := Nat.lt_of_lt_of_le hbl hb.out.size
      have hn : k + 1 ≤ maxLen := by unfold maxLen; omega
      have hby : (k + 1) * 104 ≤ 140737488355328 := by omega
      obtain ⟨xs, hxs⟩ : ∃ xs, xs = (L.take k).flatMap cells5 := ⟨_, rfl⟩
      rw [← hxs] at hown
      have HXS := Lib.hid hxs
      clear hlt hxs ho
      go_wp2_with fail
      go_region_held3 (fun w' => w'.cell? ⟨b, o + k * 2, none⟩ = some (.string nm) ∧ w'.cell? ⟨b, o + k * 2 + 1, none⟩ = some (.string sp))
        (first
          | go_keep
          | (go_split_ands
             refine ⟨?_, ?_⟩
             · (rw [hgrow.cell_far _ (by simp; omega) (Ne.symm ag)]; assumption)
             · (rw [hgrow.cell_far _ (by simp; omega) (Ne.symm ag)]; assumption)))
        ((refine step_append_lies _ (by rfl) _ _ _ (by rfl) 0 48 i0 _ 5 104 Tryd.underlying28 hi0 hz0 hz1 hz2 rfl (by omega) u3 k xs (by rfl) ((hown.alloc _).drew)
            ⟨wr.heap.size, 0, none⟩ 1 1 [.string nm, .string sp, .slice none 0 0, .slice none 0 0, .slice none 0 0] (by rfl) (by rfl) (World.news_of_block (cs := #[.string nm, .string sp, .slice none 0 0, .slice none 0 0, .slice none 0 0]) (t := 48) (fr := (0, 0)) (heap_alloc_new wr _)) (by simp [Value.oneCell'])
            (by omega) hn hby (by simp) (wr.heap.size + 1) (by simp) ?_; intro gg cap w1 hown1 hgrow hat hlt))
      have HO2 : Hid (OC w1 (.slice (some ⟨gg, 0, none⟩) (k + 1) cap) (L.take (k + 1))) := Lib.hid (by
        rw [HTK.out]
        unfold OC
        rw [List.flatMap_append, List.length_append, ← HXS.out, show (L.take k).length = k from by rw [List.length_take]; omega]
        simpa [cells5] using hown1)
      have e2 : (wr.alloc (.cells #[.string nm, .string sp, .slice none 0 0, .slice none 0 0, .slice none 0 0] 48)).heap.size = wr.heap.size + 1 := by simp
      have HG2 : Hid (∀ g, (Value.slice (some ⟨gg, 0, none⟩) (k + 1) cap).ownBlock = some g → w.heap.size ≤ g) := Lib.hid fun g hgk => by
        have e1 : gg = g := Option.some.inj hgk
        rcases hat with e | e
        · exact hg.out g (by rw [e, e1])
        · have := hb.out.size
          omega
      have HB2 : Hid (Below w.heap.size w w1) := Lib.hid (by
        have hc : Chg (fun g => u3.ownBlock = some g) wr w1 := (Chg.alloc _ wr _).drew.trans (Chg.grown (F := fun g => u3.ownBlock = some g) hgrow (fun _ e => e)) (fun _ e => .inl e)
        exact hb.out.trans (hc.below hb.out.size hg.out))
      clear hown1 hgrow hat hlt hown ag hbw hn hby hi0 hz0 hz1 hz2 q0 q1 e2
      go_wp2
      go_roundw
      case rel => exact ⟨k + 1, by omega, by go_num, HO2, HG2, HB2⟩
      case measure => simp [intOf]; omega
    · have HO : Hid (OC wr u3 L) := Lib.hid (by
        have := ho.out
        rw [List.take_of_length_le (by omega)] at this
        exact this)
      clear ho
      go_wp2
      go_ret
      obtain ⟨a', c', rfl, hrc⟩ := HO.out.rc
      exact ⟨a', c', rfl, hrc, hb.out⟩
end Go.Proofs.YtefiliomfiomfadDoor
