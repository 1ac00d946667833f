/- heap's make over things; Thing, Array. -/
import Derived.Test.YtefiliomfiomfacMake
namespace Go.Proofs.Ytefiliomfiomfac
open Go.RowKit Go.Maps

theorem find_lt {T : List Th} {a : Int} {k : Nat} (h : find T a = some k) : a ≤ (used T : Int) := by
  obtain ⟨hk, e⟩ := find_some h
  have := pos_bound T k hk
  omega
theorem find_new (T : List Th) : find T ((used T : Int) + 1) = none := by
  cases h : find T ((used T : Int) + 1) with
  | none => rfl
  | some k => have := find_lt h; omega
theorem sentAt_append (T : List Th) (t : Th) (ht : t.sent = 0) (a : Int) : sentAt (T ++ [t]) a = sentAt T a := by
  unfold sentAt
  rw [find_append]
  by_cases e : a = (used T : Int) + 1
  · rw [if_pos e, e, find_new]
    simp [ht]
  · rw [if_neg e]
    cases h : find T a with
    | none => rfl
    | some k =>
      obtain ⟨hk, _⟩ := find_some h
      simp only
      rw [List.getElem?_append_left hk]
theorem stOf_push (T : List Th) (most nb ns id : Nat) (wd : List Int) :
    (⟨raw T ++ (((id : Int) * 65536 + (wd.length : Int)) :: wd), most, fun a => if a = ((raw T).length : Int) + 1 then true else (find T a).isSome, sentAt T, nb + 1, ns⟩ : HSt) = stOf (T ++ [⟨id, wd, 0⟩]) most (nb + 1) ns := by
  unfold stOf
  congr 1
  · rw [raw_append]
    simp [raw, rawOf]
  · funext a
    rw [find_append]
    show (if a = (used T : Int) + 1 then _ else _) = _
    by_cases e : a = (used T : Int) + 1
    · rw [if_pos e, if_pos e]; rfl
    · rw [if_neg e, if_neg e]
  · funext a
    exact (sentAt_append T _ rfl a).symm
theorem HT.mono {w : World} {F : Nat → Prop} {p : Value} {T : List Th} {most N : Nat} (h : HT w F p T most N) : HT w F p T most (N + 1) := by
  obtain ⟨hg, hF, hb, mb, ms, v, nb, ns, e, hi, f1, f2, f3, f4, b1, b2⟩ := h
  exact ⟨hg, hF, hb, mb, ms, v, nb, ns, e, hi, f1, f2, f3, f4, by omega, by omega⟩
/-- Nothing was made. -/
theorem HT.same {w w' : World} {F : Nat → Prop} {p : Value} {T : List Th} {most N : Nat} (h : HT w F p T most N) (hc : ∀ G, Chg G w w') : HT w' F p T most (N + 1) := (h.chg (hc (fun _ => False)) (fun _ _ e => e)).mono

theorem makeT {w : World} {F : Nat → Prop} {p : Value} {T : List Th} {most N : Nat} (h : HT w F p T most N) (id size : Nat) (mst : Int) (f : Value) (first : List Int) (hi : id ≤ 65535) (hs : (size : Int) ≤ mst) (hsz : size ≤ 1048576)
    (hf : RI w f first) (hfl : first.length ≤ size) (hfo : ∀ k, f.ownBlock = some k → ¬ F k) (hN : N ≤ 1048576) :
    Calls Try.prog 32 #[p, .int .i64 (id : Int), .int .i64 (size : Int), .int .i64 mst, f] w (HPost w F p most N (putF T most id (first ++ List.replicate (size - first.length) 0))) := by
  have hT := h
  obtain ⟨hg, hF, hb, mb, ms, v, nb, ns, rfl, hin, f1, f2, f3, f4, b1, b2⟩ := h
  have hu : used T ≤ most := hg.2.1
  have hm := hg.1
  have hlen : (first ++ List.replicate (size - first.length) (0 : Int)).length = size := by rw [List.length_append, List.length_replicate]; omega
  unfold putF
  rw [hlen]
  by_cases hfull : most < used T + (size + 1)
  · rw [if_pos hfull]
    refine (make_full (S := stOf T most nb ns) id size mst f w hin hi hs hsz (by show used T ≤ _; omega) hm hfull).mono ?_
    rintro e w' ⟨rfl, hc⟩
    exact ⟨rfl, F, hT.same hc, hc F, fun k hk => .inl hk⟩
  · rw [if_neg hfull]
    refine (make_ok (S := stOf T most nb ns) id size mst f first w hin hi hs hsz (by show used T ≤ _; omega) hm (by show used T + (size + 1) ≤ most; omega) hf hfl
      (fun e => hfo _ e f1) (fun e => hfo _ e f2) ?_ (by show nb ≤ _; omega)).mono ?_
    · cases hob : f.ownBlock with
      | none => exact .inl rfl
      | some k => exact .inr fun e => hfo k hob (f4 k e.symm)
    · rintro e w' ⟨rfl, v', hin', hc, hv'⟩
      refine ⟨rfl, fun k => F k ∨ (w.heap.size ≤ k ∧ k < w'.heap.size), ⟨hg.push _ hi (by rw [hlen]; omega), ?_, hb, mb, ms, v', nb + 1, ns, rfl, ?_, .inl f1, .inl f2, .inl f3, ?_, by omega, by omega⟩, ?_, ?_⟩
      · intro k hk
        rcases hk with hk | hk
        · exact Nat.lt_of_lt_of_le (hF k hk) hc.size
        · exact hk.2
      · have e := stOf_push T most nb ns id (first ++ List.replicate (size - first.length) 0)
        rw [hlen] at e
        rw [← e]
        exact hin'
      · intro g hgk
        rcases hv' g hgk with e | e
        · exact .inl (f4 g e)
        · exact .inr ⟨e, hin'.words.lt g hgk⟩
      · refine hc.mono ?_
        rintro k (rfl | rfl | e)
        · exact f1
        · exact f2
        · exact f4 k e
      · rintro k (hk | hk)
        · exact .inl hk
        · exact .inr hk.1
theorem make_badT {w : World} {F : Nat → Prop} {p : Value} {T : List Th} {most N : Nat} (h : HT w F p T most N) (id size mst : Int) (f : Value) (hb : id < 0 ∨ 65535 < id ∨ size < 0 ∨ mst < size) :
    Calls Try.prog 32 #[p, .int .i64 id, .int .i64 size, .int .i64 mst, f] w (HPost w F p most N (0, 2, T)) := by
  have hT := h
  obtain ⟨_, _, hb', _, _, _, _, _, rfl, _⟩ := h
  refine (make_bad _ id size mst f w hb).mono ?_
  rintro e w' ⟨rfl, rfl⟩
  exact ⟨rfl, F, hT.mono, Chg.refl _ _, fun k hk => .inl hk⟩

theorem thing13 {w : World} {F : Nat → Prop} {p : Value} {T : List Th} {most N : Nat} (h : HT w F p T most N) (id size : Int) (hN : N ≤ 1048576) :
    Calls Try.prog 13 #[p, .int .i64 id, .int .i64 size] w (HPost w F p most N (thingF T most id size)) := by
  have hp : ∃ a, p = .pointer (some a) := by obtain ⟨_, _, hb', _, _, _, _, _, rfl, _⟩ := h; exact ⟨_, rfl⟩
  have hc : Calls Try.prog 32 #[p, .int .i64 id, .int .i64 size, .int .i64 4096, .slice none 0 0] w (HPost w F p most N (thingF T most id size)) := by
    unfold thingF
    by_cases hb : id < 0 ∨ 65535 < id ∨ size < 0 ∨ 4096 < size
    · rw [if_pos hb]
      exact make_badT h id size 4096 _ hb
    · rw [if_neg hb]
      obtain ⟨i, rfl⟩ : ∃ i : Nat, id = (i : Int) := ⟨id.toNat, by omega⟩
      obtain ⟨s, rfl⟩ : ∃ s : Nat, size = (s : Int) := ⟨size.toNat, by omega⟩
      have := makeT h i s 4096 (.slice none 0 0) [] (by omega) (by omega) (by omega) (RI.nil w) (by simp) (fun k hk => by cases hk) hN
      simpa using this
  obtain ⟨a, rfl⟩ := hp
  have HC := Lib.hid hc
  clear hc h hN
  go_enter Try.func13, Try.ntmps13
  go_wp2_with fail
  refine HC.out.mono ?_
  rintro e w1 ⟨rfl, h1⟩
  have H1 := Lib.hid h1
  clear h1
  go_wp2
  go_ret2
  exact ⟨rfl, H1.out⟩
theorem HPost.from {w0 w w' : World} {F : Nat → Prop} {p : Value} {most N : Nat} {r : Int × Int × List Th} {e : Ending} (h : HPost w F p most N r e w') (hc : Chg F w0 w) : HPost w0 F p most N r e w' := by
  obtain ⟨he, F', hT, hc', hF⟩ := h
  refine ⟨he, F', hT, hc.trans hc' (fun k hk => .inl hk), fun k hk => ?_⟩
  rcases hF k hk with h | h
  · exact .inl h
  · exact .inr (Nat.le_trans hc.size h)

set_option maxHeartbeats 1000000 in
theorem array15 {w : World} {F : Nat → Prop} {p : Value} {T : List Th} {most N : Nat} (h : HT w F p T most N) (id n : Int) (hN : N ≤ 1048576) :
    Calls Try.prog 15 #[p, .int .i64 id, .int .i64 n] w (HPost w F p most N (arrayF T most id n)) := by
  have hp : ∃ a, p = .pointer (some a) := by obtain ⟨_, _, hb', _, _, _, _, _, rfl, _⟩ := h; exact ⟨_, rfl⟩
  have hsame : HPost w F p most N (0, 2, T) (.returned (.tuple #[.int .i64 0, .int .i64 2])) w := ⟨rfl, F, h.mono, Chg.refl _ _, fun k hk => .inl hk⟩
  have hal := h.chg (Chg.alloc (fun _ => False) w (.cells #[.int .i64 n] 2)) (fun _ _ e => e)
  have hc : ¬ n < 0 → ¬ 4095 < n → Calls Try.prog 32 #[p, .int .i64 id, .int .i64 (n + 1), .int .i64 4096, .slice (some ⟨w.heap.size, 0, none⟩) 1 1] (w.alloc (.cells #[.int .i64 n] 2)) (HPost w F p most N (arrayF T most id n)) := by
    intro h1 h2
    unfold arrayF
    obtain ⟨s, rfl⟩ : ∃ s : Nat, n = (s : Int) := ⟨n.toNat, by omega⟩
    by_cases hb : id < 0 ∨ 65535 < id ∨ (s : Int) < 0 ∨ 4095 < (s : Int)
    · rw [if_pos hb]
      exact (make_badT hal id ((s : Int) + 1) 4096 _ (by omega)).mono fun e w' hp => hp.from (Chg.alloc F w _)
    · rw [if_neg hb]
      obtain ⟨i, rfl⟩ : ∃ i : Nat, id = (i : Int) := ⟨id.toNat, by omega⟩
      have := makeT hal i (s + 1) 4096 (.slice (some ⟨w.heap.size, 0, none⟩) 1 1) [(s : Int)] (by omega) (by push_cast; omega) (by omega) (ri_one w s 2 _) (by simp) (fun k hk hF => by
        have e := Option.some.inj hk
        have := h.2.1 k hF
        have e' : w.heap.size = k := e
        omega) hN
      push_cast at this
      refine this.mono fun e w' hp => ?_
      have := hp.from (Chg.alloc F w _)
      simpa using this
  obtain ⟨a, rfl⟩ := hp
  have HC := Lib.hid hc
  have HS := Lib.hid hsame
  by_cases h1 : n < 0
  · have e : Hid (arrayF T most id n = (0, 2, T)) := by unfold arrayF; exact if_pos (by omega)
    clear hc h hN hal hsame
    go_enter Try.func15, Try.ntmps15
    go_wp2
    go_ret2
    rw [e.out]
    exact HS.out
  by_cases h2 : 4095 < n
  · have e : Hid (arrayF T most id n = (0, 2, T)) := by unfold arrayF; exact if_pos (by omega)
    have h2' : 4096 ≤ n := by omega
    clear hc h hN hal hsame h2
    go_enter Try.func15, Try.ntmps15
    go_wp2
    go_ret2
    rw [e.out]
    exact HS.out
  have h2' : ¬ 4096 ≤ n := by omega
  have HC' := Lib.hid (hc h1 h2)
  clear hc h hN hal hsame HC h2
  go_enter Try.func15, Try.ntmps15
  go_wp2_with fail
  refine HC'.out.mono ?_
  rintro e w1 ⟨rfl, h1⟩
  have H1 := Lib.hid h1
  clear h1
  go_wp2
  go_ret2
  exact ⟨rfl, H1.out⟩
end Go.Proofs.Ytefiliomfiomfac
