/- The two functions Text, the two functions GetText, Kept. -/
import Derived.Test.YtefiliomfiomfaaShort
namespace Go.Proofs.Ytefiliomfiomfaa
open Go.RowKit

theorem Rd.cut2 {w : World} {a : Option Addr} {c : Nat} {l : List UInt8} (lo hi : Nat) (h1 : lo ≤ hi) (h2 : hi ≤ l.length) (h : Rd w (.slice a l.length c) l) :
    ∃ a', (∀ W, (Instr.slice 24 (.slice a l.length c) (some (.int .i64 (lo : Int))) (some (.int .i64 (hi : Int))) none).run Try.prog W = .ok (.slice a' (hi - lo) (c - lo)) W) ∧ Rd w (.slice a' (hi - lo) (c - lo)) ((l.drop lo).take (hi - lo)) := by
  obtain ⟨a1, c1, e, hc, hn, hcells⟩ := h
  injection e with e1 e2 e3
  subst e1 e3
  have hr : ∀ W, (Instr.slice 24 (.slice a l.length c) (some (.int .i64 (lo : Int))) (some (.int .i64 (hi : Int))) none).run Try.prog W = .ok (sliced a lo hi c 1) W := by
    intro W
    rw [run_slice_lh W 24 a l.length c (by simp [Program.elem, Try.underlying24]) .i64 .i64 (lo : Int) (hi : Int) (by omega) (by omega) (by omega)]
    simp [go_sem, Program.elem, Try.underlying24]
  have hlen : ((l.drop lo).take (hi - lo)).length = hi - lo := by rw [List.length_take, List.length_drop]; omega
  refine ⟨_, hr, ?_⟩
  refine ⟨_, c - lo, by rw [hlen], by rw [hlen]; omega, ?_, ?_⟩
  · intro e
    cases a with
    | none => have := hn rfl; omega
    | some b => split at e <;> simp at e
  · intro hne
    have hlt : lo < hi := by
      rcases Nat.lt_or_ge lo hi with h | h
      · exact h
      · have : hi - lo = 0 := by omega
        rw [this] at hne
        exact absurd (List.take_zero) hne
    have hl0 : l ≠ [] := by intro e; subst e; simp at h2; omega
    obtain ⟨b, o, e, hb, hcs⟩ := hcells hl0
    subst e
    refine ⟨b, o + lo, ?_, hb, ?_⟩
    · have : ¬ c = lo := by omega
      simp [this, Addr.add]
    · intro i hi'
      rw [hlen] at hi'
      rw [Nat.add_assoc, hcs (lo + i) (by omega), List.getElem_take, List.getElem_drop]

/-- What Text answers. -/
def txtL (l : List UInt8) (s : ByteArray) : List UInt8 := l ++ (enc (zig (s.size : Int)) ++ s.data.toList)
theorem size_ok (s : ByteArray) (h : s.size ≤ 140737488355328) : -9223372036854775808 ≤ (s.size : Int) ∧ (s.size : Int) ≤ 9223372036854775807 := by omega
set_option maxHeartbeats 1000000 in
theorem text13 (v : Value) (l : List UInt8) (s : ByteArray) (w : World) (hv : Rd w v l) (hl : l.length + 10 + s.size ≤ 140737488355328) : Calls Try.prog 13 #[v, .string s] w fun e w' =>
    ∃ v', e = .returned v' ∧ Own w' w.heap.size v' (txtL l s) ∧ Below w.heap.size w w' := by
  have hk := size_ok s (by omega)
  have hten := enc_ten _ (zig_lt _ hk.1 hk.2)
  have hput := fun w h => put10 v l (s.size : Int) w h hk.1 hk.2 (by omega)
  have hlen : (l ++ enc (zig (s.size : Int))).length + s.size ≤ 140737488355328 := by rw [List.length_append]; omega
  have HV := Lib.hid hv
  have HP := Lib.hid hput
  have HL := Lib.hid hlen
  clear hv hput hten hlen
  go_enter Try.func13, Try.ntmps13
  go_wp2_with fail
  refine (HP.out _ HV.out).mono ?_
  rintro e w1 ⟨v1, rfl, ho, hb⟩
  have HO := Lib.hid ho
  have HB := Lib.hid hb
  have hs := hb.size
  clear ho hb
  go_wp2_with (at_builtin; refine wpList_appS rfl (.tmp 8) (.tmp 9) rfl w.heap.size v1 _ s rfl rfl HO.out HL.out hs ?_)
  intro v2 w2 ho hb
  have HO2 := Lib.hid ho
  have HB2 := Lib.hid (HB.out.trans hb)
  clear ho hb
  go_wp2
  go_ret
  exact ⟨v2, rfl, HO2.out, HB2.out⟩
set_option maxHeartbeats 1000000 in
theorem text16 (v : Value) (l : List UInt8) (s : ByteArray) (w : World) (hv : Rd w v l) (hl : l.length + 10 + s.size ≤ 140737488355328) : Calls Try.prog 16 #[v, .string s] w fun e w' =>
    ∃ v', e = .returned v' ∧ Own w' w.heap.size v' (txtL l s) ∧ Below w.heap.size w w' := by
  have hk := size_ok s (by omega)
  have hten := enc_ten _ (zig_lt _ hk.1 hk.2)
  have hput := fun w h => put19 v l (s.size : Int) w h hk.1 hk.2 (by omega)
  have hlen : (l ++ enc (zig (s.size : Int))).length + s.size ≤ 140737488355328 := by rw [List.length_append]; omega
  have HV := Lib.hid hv
  have HP := Lib.hid hput
  have HL := Lib.hid hlen
  clear hv hput hten hlen
  go_enter Try.func16, Try.ntmps16
  go_wp2_with fail
  refine (HP.out _ HV.out).mono ?_
  rintro e w1 ⟨v1, rfl, ho, hb⟩
  have HO := Lib.hid ho
  have HB := Lib.hid hb
  have hs := hb.size
  clear ho hb
  go_wp2_with (at_builtin; refine wpList_appS rfl (.tmp 10) (.tmp 11) rfl w.heap.size v1 _ s rfl rfl HO.out HL.out hs ?_)
  intro v2 w2 ho hb
  have HO2 := Lib.hid ho
  have HB2 := Lib.hid (HB.out.trans hb)
  clear ho hb
  go_wp2
  go_ret
  exact ⟨v2, rfl, HO2.out, HB2.out⟩
theorem kept17 (v u : Value) (l : List UInt8) (w : World) (hv : Rd w v l) (hu : Rd w u l) : Calls Try.prog 17 #[v, u] w fun e w' => e = .returned (.bool true) ∧ w = w' := by
  have h1 := hv.text
  have h2 := hu.text
  clear hv hu
  go_enter Try.func17, Try.ntmps17
  go_wp2
  go_ret
  exact ⟨rfl, rfl⟩

/-- What GetText answers: the text, the place behind it, why not. -/
def gtF (b : List UInt8) (at' : Int) (most : Int) : List UInt8 × Int × Int :=
  if (getF b at').2.2 ≠ 0 then ([], 0, (getF b at').2.2)
  else if (getF b at').1 < 0 ∨ most < (getF b at').1 then ([], 0, 6)
  else if (b.length : Int) - (getF b at').2.1 < (getF b at').1 then ([], 0, 4)
  else ((b.drop (getF b at').2.1.toNat).take (getF b at').1.toNat, (getF b at').2.1 + (getF b at').1, 0)
theorem getL_ok (l : List UInt8) (p : Nat) (h : (getL l p).2.2 = 0) : (p : Int) ≤ (getL l p).2.1 ∧ (getL l p).2.1 ≤ (p : Int) + (l.length : Int) := by
  unfold getL at h ⊢
  by_cases h10 : 10 ≤ endAt l
  · rw [if_pos h10] at h; simp at h
  rw [if_neg h10] at h ⊢
  by_cases hl : l.length ≤ endAt l
  · rw [if_pos hl] at h; simp at h
  rw [if_neg hl] at h ⊢
  split at h
  · rename_i hc
    rw [if_pos hc]
    simp only
    omega
  · simp at h
theorem getF_ok (b : List UInt8) (p : Int) (h : (getF b p).2.2 = 0) : 0 ≤ (getF b p).2.1 ∧ (getF b p).2.1 ≤ (b.length : Int) := by
  unfold getF at h ⊢
  by_cases hp : p < 0 ∨ (b.length : Int) < p
  · rw [if_pos hp] at h; simp at h
  · rw [if_neg hp] at h ⊢
    have := getL_ok _ _ h
    rw [List.length_drop] at this
    omega
def gtup (r : List UInt8 × Int × Int) : Value := .tuple #[.string (sB r.1), .int .i64 r.2.1, .int .i64 r.2.2]
theorem getF_rng (b : List UInt8) (p : Int) : -9223372036854775808 ≤ (getF b p).1 ∧ (getF b p).1 ≤ 9223372036854775807 := by
  unfold getF getL
  split
  · exact ⟨by decide, by decide⟩
  split
  · exact ⟨by decide, by decide⟩
  split
  · exact ⟨by decide, by decide⟩
  split
  · exact unz_rng _ (Nat.mod_lt _ (by decide))
  · exact ⟨by decide, by decide⟩
set_option maxRecDepth 100000 in
set_option maxHeartbeats 1000000 in
theorem gettext14 (v : Value) (b : List UInt8) (p most : Int) (w : World) (hv : Rd w v b) (hbig : b.length ≤ 140737488355328) (hmlo : -9223372036854775808 ≤ most) (hmhi : most ≤ 9223372036854775807) :
    Calls Try.prog 14 #[v, .int .i64 p, .int .i64 most] w fun e w' => e = .returned (gtup (gtF b p most)) ∧ Below w.heap.size w w' := by
  have hg := fun w h => get11 v b p w h hbig
  have hok := getF_ok b p
  have hrng := getF_rng b p
  obtain ⟨R, hR⟩ : ∃ R, R = gtF b p most := ⟨_, rfl⟩
  rw [← hR]
  unfold gtF at hR
  generalize getF b p = r at *
  obtain ⟨n, k, e⟩ := r
  simp only at hR hok hrng
  obtain ⟨a, c, rfl, _⟩ := id hv
  by_cases he : e = 0
  · subst he
    obtain ⟨hk0, hk1⟩ := hok rfl
    rw [if_neg (by simp)] at hR
    by_cases hn : n < 0 ∨ most < n
    · rw [if_pos hn] at hR
      have HG := Lib.hid hg
      have HV := Lib.hid hv
      have HR := Lib.hid hR
      clear hg hv hR hok hrng
      rcases hn with hn | hn
      · go_enter Try.func14, Try.ntmps14
        go_wp2_with fail
        refine (HG.out _ HV.out).mono ?_
        rintro e w1 ⟨rfl, hb⟩
        have HB := Lib.hid hb
        clear hb
        unfold tup
        go_wp2
        go_ret3
        exact ⟨(by rw [HR.out]; rfl), HB.out⟩
      · by_cases hn0 : n < 0
        · go_enter Try.func14, Try.ntmps14
          go_wp2_with fail
          refine (HG.out _ HV.out).mono ?_
          rintro e w1 ⟨rfl, hb⟩
          have HB := Lib.hid hb
          clear hb
          unfold tup
          go_wp2
          go_ret3
          exact ⟨(by rw [HR.out]; rfl), HB.out⟩
        · go_enter Try.func14, Try.ntmps14
          go_wp2_with fail
          refine (HG.out _ HV.out).mono ?_
          rintro e w1 ⟨rfl, hb⟩
          have HB := Lib.hid hb
          clear hb
          unfold tup
          go_wp2
          go_ret3
          exact ⟨(by rw [HR.out]; rfl), HB.out⟩
    · rw [if_neg hn] at hR
      have hn1 : ¬ n < 0 := fun h => hn (.inl h)
      have hn2 : ¬ most < n := fun h => hn (.inr h)
      by_cases hs : (b.length : Int) - k < n
      · rw [if_pos hs] at hR
        have HG := Lib.hid hg
        have HV := Lib.hid hv
        have HR := Lib.hid hR
        clear hg hv hR hok hrng hn
        go_enter Try.func14, Try.ntmps14
        go_wp2_with fail
        refine (HG.out _ HV.out).mono ?_
        rintro e w1 ⟨rfl, hb⟩
        have HB := Lib.hid hb
        clear hb
        unfold tup
        go_wp2
        go_ret3
        exact ⟨(by rw [HR.out]; rfl), HB.out⟩
      · rw [if_neg hs] at hR
        obtain ⟨kk, rfl⟩ : ∃ kk : Nat, k = kk := ⟨k.toNat, by omega⟩
        obtain ⟨nn, rfl⟩ : ∃ nn : Nat, n = nn := ⟨n.toNat, by omega⟩
        obtain ⟨a', hsl, _⟩ := Rd.cut2 kk (kk + nn) (by omega) (by omega) hv
        have hcut : ∀ w, Rd w (.slice a b.length c) b → Rd w (.slice a' (kk + nn - kk) (c - kk)) ((b.drop kk).take (kk + nn - kk)) := by
          intro w h
          obtain ⟨a2, h2, h3⟩ := Rd.cut2 kk (kk + nn) (by omega) (by omega) h
          have := (hsl w).symm.trans (h2 w)
          injection this with this
          injection this with this
          rw [this]
          exact h3
        have e1 : ((kk + nn : Nat) : Int) = (kk : Int) + (nn : Int) := by omega
        have e2 : kk + nn - kk = nn := by omega
        rw [e1, e2] at hsl
        rw [e2] at hcut
        rw [Int.toNat_natCast, Int.toNat_natCast] at hR
        have HG := Lib.hid hg
        have HV := Lib.hid hv
        have HR := Lib.hid hR
        have HC := Lib.hid hcut
        have HSL := Lib.hid hsl
        clear hg hv hR hok hrng hn e1 e2 hcut hsl
        generalize (b.drop kk).take nn = T at *
        go_enter Try.func14, Try.ntmps14
        go_wp2_with fail
        refine (HG.out _ HV.out).mono ?_
        rintro e w1 ⟨rfl, hb⟩
        have htx := (HC.out _ (HV.out.below hb)).text
        have hsl := HSL.out
        have HB := Lib.hid hb
        clear hb
        unfold tup
        go_wp2
        go_ret3
        exact ⟨(by rw [HR.out]; rfl), HB.out⟩
  · rw [if_pos he] at hR
    have he1 : (e == 0) = false := by rw [beq_eq_false_iff_ne]; exact he
    have he2 : (e != 0) = true := by rw [bne_iff_ne]; exact he
    have HG := Lib.hid hg
    have HV := Lib.hid hv
    have HR := Lib.hid hR
    clear hg hv hR hok hrng he
    go_enter Try.func14, Try.ntmps14
    go_wp2_with fail
    refine (HG.out _ HV.out).mono ?_
    rintro e' w1 ⟨rfl, hb⟩
    have HB := Lib.hid hb
    clear hb
    unfold tup
    go_wp2
    go_ret3
    exact ⟨(by rw [HR.out]; rfl), HB.out⟩
set_option maxRecDepth 100000 in
set_option maxHeartbeats 1000000 in
theorem gettext15 (v : Value) (b : List UInt8) (p most : Int) (w : World) (hv : Rd w v b) (hbig : b.length ≤ 140737488355328) (hmlo : -9223372036854775808 ≤ most) (hmhi : most ≤ 9223372036854775807) :
    Calls Try.prog 15 #[v, .int .i64 p, .int .i64 most] w fun e w' => e = .returned (gtup (gtF b p most)) ∧ Below w.heap.size w w' := by
  have hg := fun w h => get25 v b p w h hbig
  have hok := getF_ok b p
  have hrng := getF_rng b p
  obtain ⟨R, hR⟩ : ∃ R, R = gtF b p most := ⟨_, rfl⟩
  rw [← hR]
  unfold gtF at hR
  generalize getF b p = r at *
  obtain ⟨n, k, e⟩ := r
  simp only at hR hok hrng
  obtain ⟨a, c, rfl, _⟩ := id hv
  by_cases he : e = 0
  · subst he
    obtain ⟨hk0, hk1⟩ := hok rfl
    rw [if_neg (by simp)] at hR
    by_cases hn : n < 0 ∨ most < n
    · rw [if_pos hn] at hR
      have HG := Lib.hid hg
      have HV := Lib.hid hv
      have HR := Lib.hid hR
      clear hg hv hR hok hrng
      rcases hn with hn | hn
      · go_enter Try.func15, Try.ntmps15
        go_wp2_with fail
        refine (HG.out _ HV.out).mono ?_
        rintro e w1 ⟨rfl, hb⟩
        have HB := Lib.hid hb
        clear hb
        unfold tup
        go_wp2
        go_ret3
        exact ⟨(by rw [HR.out]; rfl), HB.out⟩
      · by_cases hn0 : n < 0
        · go_enter Try.func15, Try.ntmps15
          go_wp2_with fail
          refine (HG.out _ HV.out).mono ?_
          rintro e w1 ⟨rfl, hb⟩
          have HB := Lib.hid hb
          clear hb
          unfold tup
          go_wp2
          go_ret3
          exact ⟨(by rw [HR.out]; rfl), HB.out⟩
        · go_enter Try.func15, Try.ntmps15
          go_wp2_with fail
          refine (HG.out _ HV.out).mono ?_
          rintro e w1 ⟨rfl, hb⟩
          have HB := Lib.hid hb
          clear hb
          unfold tup
          go_wp2
          go_ret3
          exact ⟨(by rw [HR.out]; rfl), HB.out⟩
    · rw [if_neg hn] at hR
      have hn1 : ¬ n < 0 := fun h => hn (.inl h)
      have hn2 : ¬ most < n := fun h => hn (.inr h)
      by_cases hs : (b.length : Int) - k < n
      · rw [if_pos hs] at hR
        have HG := Lib.hid hg
        have HV := Lib.hid hv
        have HR := Lib.hid hR
        clear hg hv hR hok hrng hn
        go_enter Try.func15, Try.ntmps15
        go_wp2_with fail
        refine (HG.out _ HV.out).mono ?_
        rintro e w1 ⟨rfl, hb⟩
        have HB := Lib.hid hb
        clear hb
        unfold tup
        go_wp2
        go_ret3
        exact ⟨(by rw [HR.out]; rfl), HB.out⟩
      · rw [if_neg hs] at hR
        obtain ⟨kk, rfl⟩ : ∃ kk : Nat, k = kk := ⟨k.toNat, by omega⟩
        obtain ⟨nn, rfl⟩ : ∃ nn : Nat, n = nn := ⟨n.toNat, by omega⟩
        obtain ⟨a', hsl, _⟩ := Rd.cut2 kk (kk + nn) (by omega) (by omega) hv
        have hcut : ∀ w, Rd w (.slice a b.length c) b → Rd w (.slice a' (kk + nn - kk) (c - kk)) ((b.drop kk).take (kk + nn - kk)) := by
          intro w h
          obtain ⟨a2, h2, h3⟩ := Rd.cut2 kk (kk + nn) (by omega) (by omega) h
          have := (hsl w).symm.trans (h2 w)
          injection this with this
          injection this with this
          rw [this]
          exact h3
        have e1 : ((kk + nn : Nat) : Int) = (kk : Int) + (nn : Int) := by omega
        have e2 : kk + nn - kk = nn := by omega
        rw [e1, e2] at hsl
        rw [e2] at hcut
        rw [Int.toNat_natCast, Int.toNat_natCast] at hR
        have HG := Lib.hid hg
        have HV := Lib.hid hv
        have HR := Lib.hid hR
        have HC := Lib.hid hcut
        have HSL := Lib.hid hsl
        clear hg hv hR hok hrng hn e1 e2 hcut hsl
        generalize (b.drop kk).take nn = T at *
        go_enter Try.func15, Try.ntmps15
        go_wp2_with fail
        refine (HG.out _ HV.out).mono ?_
        rintro e w1 ⟨rfl, hb⟩
        have htx := (HC.out _ (HV.out.below hb)).text
        have hsl := HSL.out
        have HB := Lib.hid hb
        clear hb
        unfold tup
        go_wp2
        go_ret3
        exact ⟨(by rw [HR.out]; rfl), HB.out⟩
  · rw [if_pos he] at hR
    have he1 : (e == 0) = false := by rw [beq_eq_false_iff_ne]; exact he
    have he2 : (e != 0) = true := by rw [bne_iff_ne]; exact he
    have HG := Lib.hid hg
    have HV := Lib.hid hv
    have HR := Lib.hid hR
    clear hg hv hR hok hrng he
    go_enter Try.func15, Try.ntmps15
    go_wp2_with fail
    refine (HG.out _ HV.out).mono ?_
    rintro e' w1 ⟨rfl, hb⟩
    have HB := Lib.hid hb
    clear hb
    unfold tup
    go_wp2
    go_ret3
    exact ⟨(by rw [HR.out]; rfl), HB.out⟩
end Go.Proofs.Ytefiliomfiomfaa
