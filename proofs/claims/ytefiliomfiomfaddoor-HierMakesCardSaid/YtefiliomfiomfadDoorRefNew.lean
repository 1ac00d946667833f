/- The reference's New. -/
import Derived.Test.YtefiliomfiomfadDoorRefApp
import Derived.Deep.RegionLaw
import Derived.ChangeAlike
namespace Go.Proofs.YtefiliomfiomfadDoor
open Go.RowKit

/-- The reference's look for a loop. -/
def loopRN (H : List (BA × BA)) (name : BA) : Nat → BA → Bool → Bool
  | 0, _, _ => false
  | k + 1, s, ok => if ok then (if s = name then true else loopRN H name k (superF H s).1 (superF H s).2) else false
theorem loopRN_succ (H : List (BA × BA)) (name : BA) (k : Nat) (s : BA) (ok : Bool) : loopRN H name (k + 1) s ok = if ok then (if s = name then true else loopRN H name k (superF H s).1 (superF H s).2) else false := rfl
theorem loopRN_zero (H : List (BA × BA)) (name s : BA) (ok : Bool) : loopRN H name 0 s ok = false := rfl
def loopRF (H : List (BA × BA)) : List (BA × BA) → Option BA
  | [] => none
  | p :: r => if loopRN H p.1 60 p.2 true then some p.1 else loopRF H r
theorem loopRF_cons (H : List (BA × BA)) (p : BA × BA) (r : List (BA × BA)) : loopRF H (p :: r) = if loopRN H p.1 60 p.2 true then some p.1 else loopRF H r := rfl
theorem loopRF_nil (H : List (BA × BA)) : loopRF H [] = none := rfl
def restRF (H L : List (BA × BA)) : Option (List (BA × BA)) × BA × Int :=
  match noneF H L with
  | some c => (none, c, 9)
  | none => match loopRF H L with
    | some c => (none, c, 14)
    | none => (some H, ⟨#[]⟩, 0)
def newRF (L : List (BA × BA)) : Option (List (BA × BA)) × BA × Int :=
  if 32 < L.length then (none, ⟨#[]⟩, 6) else match fillF base L with
    | .error c => (none, c, 8)
    | .ok H => restRF H L
/-- What the reference's New leaves. -/
def RPost (w : World) (r : Option (List (BA × BA)) × BA × Int) (e : Ending) (w' : World) : Prop := Below w.heap.size w w' ∧ match r.1 with
  | none => e = .returned (.tuple #[.pointer none, .string r.2.1, .int .i64 r.2.2])
  | some H => ∃ p F, e = .returned (.tuple #[p, .string r.2.1, .int .i64 r.2.2]) ∧ RH w' F p H ∧ (∀ k, F k → w.heap.size ≤ k)
theorem RPost.mk_none {w w' : World} {L : List (BA × BA)} {c : BA} {k : Int} {e : Ending} (h : newRF L = (none, c, k)) (he : e = .returned (.tuple #[.pointer none, .string c, .int .i64 k])) (hb : Below w.heap.size w w') : RPost w (newRF L) e w' := by
  rw [h]
  exact ⟨hb, he⟩
theorem RInv.start (w : World) : RInv w (.pointer (some ⟨w.heap.size + 1, 0, none⟩)) base ((w.alloc (.cells (base.flatMap cells2).toArray 54)).alloc (.cells #[.slice (some ⟨w.heap.size, 0, none⟩) 9 9] 63)) := by
  have e0 : (w.alloc (.cells (base.flatMap cells2).toArray 54)).heap.size = w.heap.size + 1 := by simp
  have e1 : ((w.alloc (.cells (base.flatMap cells2).toArray 54)).alloc (.cells #[.slice (some ⟨w.heap.size, 0, none⟩) 9 9] 63)).heap.size = w.heap.size + 2 := by simp
  refine ⟨fun k => w.heap.size ≤ k ∧ k < w.heap.size + 2, ⟨fun k hk => by rw [e1]; exact hk.2, w.heap.size + 1, .slice (some ⟨w.heap.size, 0, none⟩) 9 9, rfl, ?_, ?_, ?_, ⟨by omega, by omega⟩, ?_⟩, fun k hk => hk.1, ((Below.refl _ w).alloc (Nat.le_refl _) _).alloc (by simp) _⟩
  · have := heap_alloc_new (w.alloc (.cells (base.flatMap cells2).toArray 54)) (.cells #[Value.slice (some ⟨w.heap.size, 0, none⟩) 9 9] 63)
    rw [e0] at this
    exact this
  · exact (op_base w).chg (Chg.alloc (fun _ => False) _ _) (fun _ _ e => e)
  · intro e
    have : w.heap.size = w.heap.size + 1 := Option.some.inj e
    omega
  · intro g hg
    have : w.heap.size = g := Option.some.inj hg
    omega

set_option maxRecDepth 100000 in
set_option maxHeartbeats 8000000 in
theorem refnew36 (a : Option Addr) (cp : Nat) (L : List (BA × BA)) (w : World) (hR : RC w a L) (hlen : L.length ≤ 60) :
    Calls Tryd.prog 36 #[.slice a L.length cp] w (RPost w (newRF L)) := by
  by_cases h32 : 32 < L.length
  · have hN : Hid (newRF L = (none, ⟨#[]⟩, 6)) := by unfold newRF; exact if_pos h32
    clear hR
    go_enter Tryd.func36, Tryd.ntmps36
    go_wp2
    refine bodyPost_ret (v := .tuple #[.pointer none, .string ⟨#[]⟩, .int .i64 6]) (by simp [results, Tryd.results36, go_sem]) rfl ?_
    exact RPost.mk_none hN.out rfl (Below.refl _ _)
  have HR := Lib.hid hR
  have hd32 : decide (32 < (L.length : Int)) = false := decide_eq_false (by omega)
  have hNF : Hid (newRF L = match fillF base L with | .error c => (none, c, 8) | .ok H => restRF H L) := Lib.hid (by unfold newRF; exact if_neg h32)
  clear hR
  go_enter Tryd.func36, Tryd.ntmps36
  go_wp2_with fail
  refine (always51 w).mono ?_
  rintro e w1 ⟨rfl, rfl⟩
  have HI := Lib.hid (RInv.start w)
  go_wp2
  change Code.wp _ _ _ _ ((w.alloc (.cells (base.flatMap cells2).toArray 54)).alloc (.cells #[.slice (some ⟨w.heap.size, 0, none⟩) 9 9] 63))
  go_loopw [6] (fun i wr => ∃ (j : Nat) (H : List (BA × BA)), j ≤ L.length ∧ i = .int .i64 j ∧ Hid (RInv w (.pointer (some ⟨w.heap.size + 1, 0, none⟩)) H wr) ∧ Hid (H.length = 9 + j ∧ fillF base L = fillF H (L.drop j))) (fun i _ => L.length - (intOf i).toNat)
  case atStart => exact ⟨0, base, by omega, rfl, HI, Lib.hid ⟨rfl, rfl⟩⟩
  case round =>
    clear HI
    obtain ⟨j, H, hj, rfl, hn, hf⟩ := hrel
    by_cases hjl : j < L.length
    · obtain ⟨b, o, rfl, hb, hcs⟩ := HR.out (fun e => by rw [e] at hjl; simp at hjl)
      obtain ⟨F, hp, hF, hbl⟩ := hn.out
      obtain ⟨a2, n2, c2, a3, n3, c3, a4, n4, c4, y0, y1, y2, y3, y4⟩ := hcs j hjl
      have q0 := (hbl.cell (p := ⟨b, o + j * 5, none⟩) hb).trans y0
      have q1 := (hbl.cell (p := ⟨b, o + j * 5 + 1, none⟩) hb).trans y1
      have hf2 := hf.out
      rw [List.drop_eq_getElem_cons hjl] at hf2
      obtain ⟨⟨nm, sp⟩, hx⟩ : ∃ x, L[j] = x := ⟨_, rfl⟩
      rw [hx] at hf2 q0 q1
      obtain ⟨hl, hf3⟩ := hf2
      rw [fillF_cons] at hf3
      simp only at hf3 q0 q1
      have HHAS := Lib.hid (has20 hp (by omega) nm)
      have HF3 := Lib.hid hf3
      by_cases hlk : (look H nm).isSome = true
      · have HE := HF3.out
        rw [if_pos hlk] at HE
        rw [hlk] at HHAS
        have hnf := hNF.out
        rw [HE] at hnf
        simp only at hnf
        have HNX := Lib.hid hnf
        have HBL := Lib.hid hbl
        clear hcs y0 y1 y2 y3 y4 hx hl hf3 hf hn HE hlk hnf hp hF hbl
        go_wp2_with fail
        refine HHAS.out.mono ?_
        rintro e w5 ⟨rfl, rfl⟩
        go_wp2
        go_quiet (fail)
        go_wp2
        refine bodyPost_ret (v := .tuple #[.pointer none, .string nm, .int .i64 8]) (by simp [results, Tryd.results36, go_sem]) rfl ?_
        exact RPost.mk_none HNX.out rfl (HBL.out.trans (Chg.below (F := fun _ => False) ((Chg.refl _ _).drewN _) HBL.out.size (fun _ e => e.elim)))
      · have HE := HF3.out
        rw [if_neg hlk] at HE
        have hlf : (look H nm).isSome = false := by simpa using hlk
        rw [hlf] at HHAS
        obtain ⟨hFs, R, v, eR, hbR, hop, hne, f1, f2⟩ := hp
        injection eR with eR
        injection eR with eR
        injection eR with eR
        subst eR
        obtain ⟨av, cv, rfl, _⟩ := hop.rp
        have c0 : wr.cell? ⟨w.heap.size + 1, 0, none⟩ = some (.slice av H.length cv) := by unfold World.cell?; rw [hbR]; rfl
        have fz : wr.frozen? ⟨w.heap.size + 1, 0, none⟩ = false := by unfold World.frozen?; rw [hbR]; simp
        have fzA : (wr.alloc (.cells #[.string nm, .string sp] 54)).drew.frozen? ⟨w.heap.size + 1, 0, none⟩ = false := by
          have e := (heap_alloc_old wr (.cells #[.string nm, .string sp] 54) (Array.getElem?_eq_some_iff.1 hbR).1).trans hbR
          have e2 : (wr.alloc (.cells #[.string nm, .string sp] 54)).drew.heap[w.heap.size + 1]? = some (.cells #[.slice av H.length cv] 63 (0, 0)) := e
          unfold World.frozen?
          rw [e2]
          simp
        obtain ⟨i0, hi0, hz0, hz1, hz2⟩ := info_parts info54
        have hown : wr.ownsRow 0 54 2 (.slice av H.length cv) H.length (H.flatMap cells2) := hop
        obtain ⟨xs, hxs⟩ : ∃ xs, xs = H.flatMap cells2 := ⟨_, rfl⟩
        rw [← hxs] at hown
        have ag : (Value.slice av H.length cv).ownBlock ≠ some b := fun e => by have := hF b (f2 b e); omega
        have hbw : b < wr.heap.size := Nat.lt_of_lt_of_le hb hbl.size
        have hRw : w.heap.size + 1 < wr.heap.size := (Array.getElem?_eq_some_iff.1 hbR).1
        have hbR2 : b ≠ w.heap.size + 1 := by omega
        have hnl : H.length + 1 ≤ maxLen := by unfold maxLen; omega
        have hby : (H.length + 1) * 32 ≤ 140737488355328 := by omega
        have HXS := Lib.hid hxs
        have HHL := Lib.hid hl
        have HEE := Lib.hid HE
        have HBR := Lib.hid hbR
        have HNE := Lib.hid hne
        have HFF := Lib.hid (And.intro hF (And.intro f1 f2))
        have HBL := Lib.hid hbl
        clear hcs y0 y1 y2 y3 y4 hx hl hf3 hf hn HE hlk hlf hbR hop hxs hF f1 f2 hFs hbl
        go_wp2_with fail
        refine HHAS.out.mono ?_
        rintro e w5 ⟨rfl, rfl⟩
        go_wp2_with fail
        go_region_law ((refine step_append_lies _ (by rfl) _ _ _ (by rfl) 0 54 i0 _ 2 32 Tryd.underlying22 hi0 hz0 hz1 hz2 rfl (by omega) (.slice av H.length cv) H.length xs (by rfl) ((hown.alloc _).drew) ⟨w5.heap.size, 0, none⟩ 1 1 [.string nm, .string sp] (by rfl) (by rfl) (World.news_of_block (cs := #[.string nm, .string sp]) (t := 54) (fr := (0, 0)) (heap_alloc_new w5 _)) (by simp [Value.oneCell']) (by omega) hnl hby (by simp) (w5.heap.size + 1) (by simp) ?_; intro gg cap w1 hown1 hgrow hat hlt; have cR := (hgrow.cell_far ⟨w.heap.size + 1, 0, none⟩ (by simp; omega) (Ne.symm hne)); have fR := (hgrow.frozen_far ⟨w.heap.size + 1, 0, none⟩ (by simp; omega) (Ne.symm hne)).trans fzA))
        all_goals (
          have HPU : Hid (RInv w (.pointer (some ⟨w.heap.size + 1, 0, none⟩)) (H ++ [(nm, sp)]) (w1.setCell ⟨w.heap.size + 1, 0, none⟩ (.slice (some ⟨gg, 0, none⟩) (H.length + 1) cap))) := Lib.hid (RInv.push (p := (nm, sp)) HBL.out (by omega) HBR.out (fun g hg => HFF.out.1 g (HFF.out.2.2 g hg)) HNE.out
            (by unfold OP; rw [List.flatMap_append, List.length_append, ← HXS.out]; simpa [cells2] using hown1)
            ((Chg.alloc _ w5 _).drew.trans (Chg.grown (F := fun g => (Value.slice av H.length cv).ownBlock = some g) hgrow (fun _ e => e)) (fun _ e => .inl e)) (hat.elim .inl (fun e => .inr (by omega))))
          have HREL : Hid ((H ++ [(nm, sp)]).length = 9 + (j + 1) ∧ fillF base L = fillF (H ++ [(nm, sp)]) (L.drop (j + 1))) := Lib.hid ⟨by rw [List.length_append, HHL.out]; rfl, HEE.out⟩
          clear hown1 hgrow hat hlt cR fR hown ag hbw hRw hbR2 hnl hby hi0 hz0 hz1 hz2 q0 q1 c0 fz fzA hne
          go_wp2
          go_roundw
          case rel => exact ⟨j + 1, _, by omega, by go_num, HPU, HREL⟩
          case measure => simp [intOf]; omega)
    · have hm := hf.out
      rw [List.drop_of_length_le (by omega), fillF_nil] at hm
      obtain ⟨hm1, hm3⟩ := hm
      have hnf := hNF.out
      rw [hm3] at hnf
      simp only at hnf
      have HNF := Lib.hid hnf
      have HHL : Hid (H.length ≤ 64) := Lib.hid (by omega)
      clear hm1 hm3 hnf hNF hf
      go_wp2
      have HNN : Hid (noneF H L = noneF H (L.drop 0)) := Lib.hid rfl
      go_loopw [7] (fun i wr => ∃ (j : Nat), j ≤ L.length ∧ i = .int .i64 j ∧ Hid (RInv w (.pointer (some ⟨w.heap.size + 1, 0, none⟩)) H wr) ∧ Hid (noneF H L = noneF H (L.drop j))) (fun i _ => L.length - (intOf i).toNat)
      case atStart => exact ⟨0, by omega, rfl, hn, HNN⟩
      case round =>
        clear hn HNN hj hjl
        obtain ⟨j, hj, rfl, hn, hf⟩ := hrel
        by_cases hjl : j < L.length
        · obtain ⟨b, o, rfl, hb, hcs⟩ := HR.out (fun e => by rw [e] at hjl; simp at hjl)
          obtain ⟨F, hp, hF, hbl⟩ := hn.out
          obtain ⟨a2, n2, c2, a3, n3, c3, a4, n4, c4, y0, y1, y2, y3, y4⟩ := hcs j hjl
          have q0 := (hbl.cell (p := ⟨b, o + j * 5, none⟩) hb).trans y0
          have q1 := (hbl.cell (p := ⟨b, o + j * 5 + 1, none⟩) hb).trans y1
          have hf2 := hf.out
          rw [List.drop_eq_getElem_cons hjl] at hf2
          obtain ⟨⟨nm, sp⟩, hx⟩ : ∃ x, L[j] = x := ⟨_, rfl⟩
          rw [hx] at hf2 q0 q1
          rw [noneF_cons] at hf2
          simp only at hf2 q0 q1
          have HHAS := Lib.hid (has20 hp HHL.out sp)
          have HF3 := Lib.hid hf2
          have HBL := Lib.hid hbl
          by_cases hlk : (look H sp).isSome = true
          · have HE := HF3.out
            rw [if_pos hlk] at HE
            rw [hlk] at HHAS
            have HREL := Lib.hid HE
            clear hcs y0 y1 y2 y3 y4 hp hF hbl hx hf hf2 HE hlk
            go_wp2_with fail
            refine HHAS.out.mono ?_
            rintro e w5 ⟨rfl, rfl⟩
            go_wp2
            go_roundw
            case rel => exact ⟨j + 1, by omega, by go_num, hn, HREL⟩
            case measure => simp [intOf]; omega
          · have HE := HF3.out
            rw [if_neg hlk] at HE
            have hlf : (look H sp).isSome = false := by simpa using hlk
            rw [hlf] at HHAS
            have hr := HNF.out
            unfold restRF at hr
            rw [HE] at hr
            simp only at hr
            have HNX := Lib.hid hr
            clear hcs y0 y1 y2 y3 y4 hp hF hbl hx hf hn hf2 HE hlk hlf hr
            go_wp2_with fail
            refine HHAS.out.mono ?_
            rintro e w5 ⟨rfl, rfl⟩
            go_wp2
            go_quiet (fail)
            go_wp2
            refine bodyPost_ret (v := .tuple #[.pointer none, .string nm, .int .i64 9]) (by simp [results, Tryd.results36, go_sem]) rfl ?_
            exact RPost.mk_none HNX.out rfl (HBL.out.trans (Chg.below (F := fun _ => False) ((Chg.refl _ _).drewN _) HBL.out.size (fun _ e => e.elim)))
        · have hm := hf.out
          rw [List.drop_of_length_le (by omega), noneF_nil] at hm
          have hr := HNF.out
          unfold restRF at hr
          rw [hm] at hr
          simp only at hr
          have HNG := Lib.hid hr
          clear hm hr hf HNF
          go_wp2
          have HNN : Hid (loopRF H L = loopRF H (L.drop 0)) := Lib.hid rfl
          go_loopw [8] (fun i wr => ∃ (j : Nat), j ≤ L.length ∧ i = .int .i64 j ∧ Hid (RInv w (.pointer (some ⟨w.heap.size + 1, 0, none⟩)) H wr) ∧ Hid (loopRF H L = loopRF H (L.drop j))) (fun i _ => L.length - (intOf i).toNat)
          case atStart => exact ⟨0, by omega, rfl, hn, HNN⟩
          case round =>
            clear hn HNN hj hjl
            obtain ⟨j, hj, rfl, hn, hf⟩ := hrel
            by_cases hjl : j < L.length
            · obtain ⟨b, o, rfl, hb, hcs⟩ := HR.out (fun e => by rw [e] at hjl; simp at hjl)
              obtain ⟨F, hp, hF, hbl⟩ := hn.out
              obtain ⟨a2, n2, c2, a3, n3, c3, a4, n4, c4, y0, y1, y2, y3, y4⟩ := hcs j hjl
              have q0 := (hbl.cell (p := ⟨b, o + j * 5, none⟩) hb).trans y0
              have q1 := (hbl.cell (p := ⟨b, o + j * 5 + 1, none⟩) hb).trans y1
              have hf2 := hf.out
              rw [List.drop_eq_getElem_cons hjl] at hf2
              obtain ⟨⟨nm, sp⟩, hx⟩ : ∃ x, L[j] = x := ⟨_, rfl⟩
              rw [hx] at hf2 q0 q1
              rw [loopRF_cons] at hf2
              simp only at hf2 q0 q1
              have HSU := Lib.hid (fun s => super15 hp HHL.out s)
              have HF3 := Lib.hid hf2
              have HBL := Lib.hid hbl
              have HNG2 := Lib.hid HNG.out
              obtain ⟨r, hr⟩ : ∃ r, loopRN H nm 60 sp true = r := ⟨_, rfl⟩
              have HRR := Lib.hid hr
              have HJ : Hid (L.length - (j + 1) < L.length - j) := Lib.hid (by omega)
              clear hcs y0 y1 y2 y3 y4 hp hF hbl hx hf hf2 hr
              go_wp2
              go_loopw [9, 10, 11] (fun s ok n wx => ∃ (m : Nat) (t : BA) (bk : Bool), m ≤ 60 ∧ n = .int .i64 m ∧ s = .string t ∧ ok = .bool bk ∧ wx = wr ∧ Hid (loopRN H nm 60 sp true = loopRN H nm (60 - m) t bk)) (fun _ _ n _ => 60 - (intOf n).toNat)
              case atStart => exact ⟨0, sp, true, by omega, rfl, rfl, rfl, rfl, Lib.hid rfl⟩
              case round =>
                obtain ⟨m, t, bk, hm, rfl, rfl, rfl, rfl, hlo⟩ := hrel
                have hA : m < 60 ∧ bk = true ∨ (60 ≤ m ∨ bk = false) := by
                  cases bk
                  · exact .inr (.inr rfl)
                  · rcases Nat.lt_or_ge m 60 with h | h
                    · exact .inl ⟨h, rfl⟩
                    · exact .inr (.inl h)
                rcases hA with ⟨hm60, rfl⟩ | hB
                · have h2 := hlo.out
                  rw [show 60 - m = (60 - (m + 1)) + 1 from by omega, loopRN_succ H nm (60 - (m + 1)) t true, if_pos rfl] at h2
                  have hbq := beqS t nm
                  by_cases ht : t = nm
                  · rw [if_pos ht] at h2
                    rw [decide_eq_true ht] at hbq
                    have HE := HF3.out
                    rw [if_pos h2] at HE
                    have hnf := HNG2.out
                    rw [HE] at hnf
                    simp only at hnf
                    have HNX := Lib.hid hnf
                    clear h2 ht hnf HE hlo
                    go_wp2
                    go_quiet (fail)
                    go_wp2
                    refine bodyPost_ret (v := .tuple #[.pointer none, .string nm, .int .i64 14]) (by simp [results, Tryd.results36, go_sem]) rfl ?_
                    exact RPost.mk_none HNX.out rfl (HBL.out.trans (Chg.below (F := fun _ => False) ((Chg.refl _ _).drewN _) HBL.out.size (fun _ e => e.elim)))
                  · rw [if_neg ht] at h2
                    rw [decide_eq_false ht] at hbq
                    have HS1 := Lib.hid (HSU.out t)
                    obtain ⟨⟨t2, b2⟩, hx⟩ : ∃ x, superF H t = x := ⟨_, rfl⟩
                    rw [hx] at h2 HS1
                    simp only at h2 HS1
                    have HX := Lib.hid h2
                    clear h2 ht hx hlo
                    go_wp2_with fail
                    refine HS1.out.mono ?_
                    rintro e w6 ⟨rfl, rfl⟩
                    go_wp2
                    go_roundw
                    case rel => exact ⟨m + 1, t2, b2, by omega, by go_num, by first | rfl | trivial, by first | rfl | trivial, by first | rfl | trivial, HX⟩
                    case measure => simp [intOf]; omega
                · have h2 : loopRN H nm 60 sp true = false := by
                    rw [hlo.out]
                    rcases hB with h | h
                    · rw [show 60 - m = 0 from by omega, loopRN_zero]
                    · subst h
                      cases hq : 60 - m with
                      | zero => rfl
                      | succ q => rw [loopRN_succ, if_neg (by simp)]
                  have HE := HF3.out
                  rw [h2, if_neg (by simp)] at HE
                  have HREL := Lib.hid HE
                  clear h2 HE hlo
                  rcases (by omega : ¬ m < 60 ∨ (m < 60)) with hm60 | hm60
                  · clear hB
                    go_wp2
                    go_roundw
                    case rel => exact ⟨j + 1, by omega, by go_num, hn, HREL⟩
                    case measure => simp [intOf]; omega
                  · have hbk : bk = false := hB.resolve_left (by omega)
                    subst hbk
                    go_wp2
                    go_roundw
                    case rel => exact ⟨j + 1, by omega, by go_num, hn, HREL⟩
                    case measure => simp [intOf]; omega
            · have hm := hf.out
              rw [List.drop_of_length_le (by omega), loopRF_nil] at hm
              have hr := HNG.out
              rw [hm] at hr
              simp only at hr
              have HNX := Lib.hid hr
              clear hm hr hf
              go_wp2
              refine bodyPost_ret (v := .tuple #[.pointer (some ⟨w.heap.size + 1, 0, none⟩), .string ⟨#[]⟩, .int .i64 0]) (by simp [results, Tryd.results36, go_sem]) rfl ?_
              rw [HNX.out]
              obtain ⟨F5, hp5, hF5, hb5⟩ := hn.out
              exact ⟨hb5, _, F5, rfl, hp5, hF5⟩
end Go.Proofs.YtefiliomfiomfadDoor
