/- BinShort: a number's bytes without the last one are no number; with bytes behind them they are the same number. -/
import Derived.Test.YtefiliomfiomfaaKnown
import Derived.SizedLaws
import Derived.ProofKit
namespace Go.Proofs.Ytefiliomfiomfaa
open Go.RowKit Go.ChangeShapes Go.WideShapes Go.ChangeAt

theorem val_enc (u : Nat) : val (enc u) = u := by
  induction u using Nat.strongRecOn with
  | ind u ih =>
    by_cases h : u < 128
    · rw [enc_small h]
      simp only [val, UInt8.toNat_ofNat']
      omega
    · rw [enc_big h]
      simp only [val, UInt8.toNat_ofNat']
      rw [ih _ (by omega)]
      omega
theorem endAt_enc (u : Nat) (r : List UInt8) : endAt (enc u ++ r) + 1 = (enc u).length := by
  induction u using Nat.strongRecOn with
  | ind u ih =>
    by_cases h : u < 128
    · rw [enc_small h]
      have : (UInt8.ofNat u).toNat < 128 := by rw [UInt8.toNat_ofNat']; omega
      unfold endAt
      rw [List.singleton_append, List.findIdx_cons, decide_eq_true this]
      rfl
    · rw [enc_big h]
      have : ¬ (UInt8.ofNat (u % 128 + 128)).toNat < 128 := by rw [UInt8.toNat_ofNat']; omega
      have := ih (u / 128) (by omega)
      unfold endAt at this ⊢
      rw [List.cons_append, List.findIdx_cons, decide_eq_false ‹_›, List.length_cons]
      simp only [cond_false]
      omega
theorem endAt_cut (u : Nat) : endAt ((enc u).take ((enc u).length - 1)) = (enc u).length - 1 := by
  induction u using Nat.strongRecOn with
  | ind u ih =>
    by_cases h : u < 128
    · rw [enc_small h]
      rfl
    · have hp := enc_pos (u / 128)
      have h1 := ih (u / 128) (by omega)
      rw [enc_big h]
      have h2 : ¬ (UInt8.ofNat (u % 128 + 128)).toNat < 128 := by rw [UInt8.toNat_ofNat']; omega
      rw [List.length_cons, Nat.add_sub_cancel]
      obtain ⟨m, hm⟩ : ∃ m, (enc (u / 128)).length = m + 1 := ⟨(enc (u / 128)).length - 1, by omega⟩
      rw [hm, Nat.add_sub_cancel] at h1
      rw [hm, List.take_succ_cons]
      unfold endAt at h1 ⊢
      rw [List.findIdx_cons, decide_eq_false h2]
      simp only [cond_false]
      omega
theorem getL_enc (n : Int) (hlo : -9223372036854775808 ≤ n) (hhi : n ≤ 9223372036854775807) (r : List UInt8) (p : Nat) : getL (enc (zig n) ++ r) p = (n, (p : Int) + ((enc (zig n)).length : Int), 0) := by
  have he := endAt_enc (zig n) r
  have hl := enc_ten (zig n) (zig_lt n hlo hhi)
  have ht : (enc (zig n) ++ r).take (endAt (enc (zig n) ++ r) + 1) = enc (zig n) := by
    rw [he, List.take_left]
  unfold getL
  rw [ht, val_enc, Nat.mod_eq_of_lt (zig_lt n hlo hhi), if_neg (by omega), if_neg (by rw [List.length_append]; omega), if_pos rfl, unz_zig]
  congr 2
  omega
theorem getF_enc (n : Int) (hlo : -9223372036854775808 ≤ n) (hhi : n ≤ 9223372036854775807) (q r : List UInt8) : getF (q ++ (enc (zig n) ++ r)) (q.length : Int) = (n, (q.length : Int) + ((enc (zig n)).length : Int), 0) := by
  unfold getF
  rw [if_neg (by rw [List.length_append]; omega), Int.toNat_natCast, List.drop_left]
  exact getL_enc n hlo hhi r q.length
theorem getF_cut (n : Int) (hlo : -9223372036854775808 ≤ n) (hhi : n ≤ 9223372036854775807) : getF ((enc (zig n)).take ((enc (zig n)).length - 1)) 0 = (0, 0, 4) := by
  have hl := enc_ten (zig n) (zig_lt n hlo hhi)
  have hp := enc_pos (zig n)
  have he := endAt_cut (zig n)
  unfold getF
  rw [if_neg (by omega)]
  show getL (List.drop 0 _) 0 = _
  rw [List.drop_zero]
  unfold getL
  rw [he, if_neg (by omega), if_pos (by rw [List.length_take]; omega)]

theorem Own.shape {w : World} {base : Nat} {v : Value} {l : List UInt8} (h : Own w base v l) : ∃ a c, v = .slice a l.length c := by
  obtain ⟨a, c, e, _⟩ := h.rd
  exact ⟨a, c, e⟩
theorem put10s (v : Value) (l : List UInt8) (n : Int) (w : World) (hv : Rd w v l) (hlo : -9223372036854775808 ≤ n) (hhi : n ≤ 9223372036854775807) (hl : l.length + 10 ≤ 140737488355328) (L : List UInt8) (hL : L = l ++ enc (zig n)) (N : Nat) (hN : N = L.length) :
    Calls Try.prog 10 #[v, .int .i64 n] w fun e w' => ∃ a c, e = .returned (.slice a N c) ∧ Own w' w.heap.size (.slice a N c) L ∧ Below w.heap.size w w' := by
  subst hL
  subst hN
  refine (put10 v l n w hv hlo hhi hl).mono ?_
  rintro e w' ⟨v', rfl, ho, hb⟩
  obtain ⟨a, c, rfl⟩ := ho.shape
  exact ⟨a, c, rfl, ho, hb⟩

theorem wf64 {a : Int} (h : (Lit.int .i64 a).wf = true) : -9223372036854775808 ≤ a ∧ a ≤ 9223372036854775807 := by
  simp [Lit.wf, IntKind.min, IntKind.max, IntKind.signed, IntKind.bits] at h
  exact h
set_option maxHeartbeats 2000000 in
theorem short_row (n : Int) (a : Option Addr) (len cap : Nat) (m : List UInt8) (w : World) (hn : (Lit.int .i64 n).wf = true) (hm : m.length = len) (hv : Rd w (.slice a len cap) m) (hl : len ≤ 140737488351232) :
    Calls Try.prog 4 #[.int .i64 n, .slice a len cap] w fun e w' => e = .returned (.bool true) ∧ Below w.heap.size w w' := by
  obtain ⟨hlo, hhi⟩ := wf64 hn
  have hten := enc_ten (zig n) (zig_lt n hlo hhi)
  have hpos := enc_pos (zig n)
  have hcut := getF_cut n hlo hhi
  have hall := getF_enc n hlo hhi [] m
  rw [List.nil_append] at hall
  obtain ⟨E, hE⟩ : ∃ E, E = enc (zig n) := ⟨_, rfl⟩
  obtain ⟨N, hN⟩ : ∃ N, N = E.length := ⟨_, rfl⟩
  have hput := fun w => put10s (.slice none 0 0) [] n w (Own.nil w 0).rd hlo hhi (by rw [List.length_nil]; omega) E (by rw [List.nil_append]; exact hE) N hN
  rw [← hE] at hten hpos hcut hall
  rw [← hN] at hten hpos hcut hall
  have hg1 : ∀ v w, Rd w v (E.take (N - 1)) → Calls Try.prog 11 #[v, .int .i64 0] w fun e w' => e = .returned (.tuple #[.int .i64 0, .int .i64 0, .int .i64 4]) ∧ Below w.heap.size w w' := by
    intro v w h
    have := get11 v _ 0 w h (by rw [List.length_take]; omega)
    rw [hcut] at this
    exact this
  have hg2 : ∀ v w, Rd w v (E ++ m) → Calls Try.prog 11 #[v, .int .i64 0] w fun e w' => e = .returned (.tuple #[.int .i64 n, .int .i64 N, .int .i64 0]) ∧ Below w.heap.size w w' := by
    intro v w h
    have := get11 v _ 0 w h (by rw [List.length_append, ← hN]; omega)
    have e : ((([] : List UInt8).length : Int)) = 0 := rfl
    rw [e] at hall
    rw [hall] at this
    have e2 : (0 : Int) + (N : Int) = N := by omega
    rw [e2] at this
    exact this
  have htk := fun a c w (h : Rd w (.slice a E.length c) E) => Rd.take (N - 1) (by omega) h
  rw [← hN] at htk
  have hlent := fun v w (h : Rd w v E) => lent12 v E w h (by omega)
  have hNi : ((N - 1 : Nat) : Int) = (N : Int) - 1 := by omega
  rw [hNi] at htk
  have hnn : (n == n) = true := beq_self_eq_true n
  have HPUT := Lib.hid hput
  have HG1 := Lib.hid hg1
  have HG2 := Lib.hid hg2
  have HTK := Lib.hid htk
  have HLENT := Lib.hid hlent
  have HNN := Lib.hid hN
  have HV := Lib.hid hv
  have hEm : E.length + m.length ≤ 140737488355328 := by omega
  have HEM := Lib.hid hEm
  clear hput hg1 hg2 htk hlent hN hE hcut hall hv hNi hEm hm
  go_enter Try.func4, Try.ntmps4
  go_wp2_with fail
  refine (HPUT.out _).mono ?_
  rintro e w1 ⟨b1, c1, rfl, ho, hb⟩
  have hs1 := (HTK.out _ _ _ ho.rd).1
  have HR2 := Lib.hid (HTK.out _ _ _ ho.rd).2
  have HR := Lib.hid ho.rd
  have HB := Lib.hid hb
  clear ho hb
  go_wp2_with fail
  refine (HG1.out _ _ HR2.out).mono ?_
  rintro e w2 ⟨rfl, hb⟩
  have HR3 := Lib.hid (HR.out.below hb)
  have HV2 := Lib.hid ((HV.out.below HB.out).below (hb.mono (Nat.le_refl _)))
  have HB2 := Lib.hid (HB.out.trans (hb.mono HB.out.size))
  clear hb HR HB HR2 hs1
  go_wp2_with fail
  refine (HLENT.out _ _ HR3.out).mono ?_
  rintro e w3 ⟨v3, rfl, ho, hb⟩
  have HO3 := Lib.hid ho
  have HV3 := Lib.hid (HV2.out.below hb)
  have HB3 := Lib.hid (HB2.out.trans (hb.mono HB2.out.size))
  have hsz := hb.size
  have hsz2 := HB2.out.size
  clear hb ho HB2 HR3
  go_wp2_with (at_builtin; refine wpList_appB rfl (.tmp 29) (.tmp 30) rfl w2.heap.size v3 (.slice a len cap) E m rfl rfl HO3.out HV3.out HEM.out hsz ?_)
  intro v4 w4 ho hb
  have HO4 := Lib.hid ho.rd
  have HB4 := Lib.hid (HB3.out.trans (hb.mono (by omega)))
  clear ho hb HB3
  go_wp2_with fail
  refine (HG2.out _ _ HO4.out).mono ?_
  rintro e w5 ⟨rfl, hb⟩
  have HB5 := Lib.hid (HB4.out.trans (hb.mono HB4.out.size))
  clear hb HB4
  go_wp2_with fail
  refine (known9 _).mono ?_
  rintro e w6 ⟨rfl, hb⟩
  have HB6 := Lib.hid (HB5.out.trans (hb.mono HB5.out.size))
  clear hb
  go_wp2_with fail
  go_ret
  exact ⟨rfl, HB6.out⟩

/-- A slice of bytes that came in. -/
theorem arg_bytes {H : Type} {en : TypeId × Value → H} {W : World} {base : Nat} {spare : Nat → Bool} {held : Bool} {a : Option Addr} {len cap : Nat} {d : DataW H} {ps : List MemPlace} {ts : List TypeId} {ds : List (DataW H)} {j : Nat}
    (hsz : (DataW.weightsEach Try.prog ts ds).all (· ≤ reachBytes) = true) (ht : ts[j]? = some 24) (hd : ds[j]? = some d)
    (h : DataW.Trod en Try.prog W base spare held 24 (.slice a len cap) d ps) : ∃ l : List UInt8, l.length = len ∧ Rd W (.slice a len cap) l ∧ len ≤ 140737488351232 := by
  obtain ⟨fuel, hf⟩ := h
  rcases open_ints Try.underlying24 Try.underlying5 (by kernel_rfl) hf with ⟨hcs, _⟩ | ⟨x, l, c, zs, hcs, _, hl, _, hz, hx, hcell, hwf⟩
  · simp [Value.cells] at hcs
    obtain ⟨rfl, rfl, rfl⟩ := hcs
    exact ⟨[], rfl, ⟨none, 0, rfl, by simp, fun _ => rfl, fun h => absurd rfl h⟩, by omega⟩
  · simp [Value.cells] at hcs
    obtain ⟨rfl, rfl, rfl⟩ := hcs
    obtain ⟨hx, _⟩ := Prod.mk.inj hx
    subst hx
    have z := sized_slice hsz ht hd Try.underlying24
    have hby : Try.prog.bytesOf 5 = 1 := by kernel_rfl
    rw [hby] at z
    have hl2 : len ≤ zs.length := by
      rw [hz]
      split
      · exact hl
      · exact Nat.le_refl _
    have h1 : (lits (H := H) .u8 (zs.take len)).length + (lits (H := H) .u8 (zs.drop len)).length = zs.length := by
      simp [lits]
      omega
    rw [h1] at z
    have hlen : ((zs.take len).map fun z => UInt8.ofNat z.toNat).length = len := by simp; omega
    refine ⟨(zs.take len).map fun z => UInt8.ofNat z.toNat, hlen, ?_, by unfold reachBytes at z; omega⟩
    refine ⟨_, cap, by rw [hlen], by rw [hlen]; exact hl, (fun h => by cases h), fun hne => ?_⟩
    have hpos : 0 < len := by
      rcases Nat.eq_zero_or_pos len with h | h
      · subst h; simp at hne
      · exact h
    obtain ⟨xb, xo, xs⟩ := x
    have hc0 := hcell 0 (by omega)
    have hs : xs = none := by
      cases xs with
      | none => rfl
      | some y =>
        exfalso
        unfold World.cell? at hc0
        simp [Addr.add] at hc0
        split at hc0 <;> simp_all
    subst hs
    have hb := World.block_lt_of_cell? W _ hc0
    refine ⟨xb, xo, rfl, ?_, ?_⟩
    · have e : ((⟨xb, xo, none⟩ : Addr).add 0).block = xb := by unfold Addr.add; split <;> rfl
      rw [e] at hb
      exact hb
    · intro i hi
      rw [hlen] at hi
      have e : (⟨xb, xo, none⟩ : Addr).add i = ⟨xb, xo + i, none⟩ := by unfold Addr.add; split <;> simp_all
      have hc := hcell i (by omega)
      rw [e] at hc
      rw [hc]
      have hw := hwf (zs.getD i 0) (by
        rw [List.getD_eq_getElem?_getD, List.getElem?_eq_getElem (by omega)]
        exact List.getElem_mem _)
      have hr : 0 ≤ zs.getD i 0 ∧ zs.getD i 0 ≤ 255 := by
        simp [Lit.wf, IntKind.min, IntKind.max, IntKind.signed, IntKind.bits] at hw
        simpa using hw
      have hg : zs.getD i 0 = zs[i]'(by omega) := by rw [List.getD_eq_getElem?_getD, List.getElem?_eq_getElem (by omega)]; rfl
      rw [hg] at hr ⊢
      unfold bv
      rw [List.getElem_map, List.getElem_take, UInt8.toNat_ofNat']
      congr 2
      omega
end Go.Proofs.Ytefiliomfiomfaa
