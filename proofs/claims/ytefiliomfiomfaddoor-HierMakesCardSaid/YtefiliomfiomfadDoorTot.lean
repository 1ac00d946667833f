/- No class that New has let in is above itself: plain. -/
import Derived.Test.YtefiliomfiomfadDoorSub
namespace Go.Proofs.YtefiliomfiomfadDoor

theorem nodup_len {α : Type} [DecidableEq α] : ∀ (l m : List α), l.Nodup → (∀ x ∈ l, x ∈ m) → l.length ≤ m.length
  | [], _, _, _ => Nat.zero_le _
  | a :: l, m, hn, hs => by
    rw [List.nodup_cons] at hn
    have ham := hs a (List.mem_cons_self)
    have h := nodup_len l (m.erase a) hn.2 (fun x hx => (List.mem_erase_of_ne (fun e => hn.1 (by rw [← e]; exact hx))).2 (hs x (List.mem_cons_of_mem _ hx)))
    rw [List.length_erase_of_mem ham] at h
    have : 0 < m.length := List.length_pos_of_mem ham
    simp only [List.length_cons]
    omega
theorem pigeon (f : Nat → BA) (M : List BA) (h : ∀ n, n ≤ M.length → f n ∈ M) : ∃ i j, i < j ∧ j ≤ M.length ∧ f i = f j := by
  apply Classical.byContradiction
  intro hne
  have hinj : ∀ i j, i < j → j ≤ M.length → f i ≠ f j := fun i j h1 h2 h3 => hne ⟨i, j, h1, h2, h3⟩
  have hnd : ((List.range (M.length + 1)).map f).Nodup := by
    rw [List.nodup_iff_pairwise_ne] 
    rw [List.pairwise_map]
    refine List.Pairwise.imp_of_mem ?_ (List.pairwise_lt_range)
    intro a b ha hb hab
    exact hinj a b hab (by have := List.mem_range.1 hb; omega)
  have := nodup_len _ M hnd (fun x hx => by
    obtain ⟨n, hn, rfl⟩ := List.mem_map.1 hx
    exact h n (by have := List.mem_range.1 hn; omega))
  simp at this
  omega
def sup (H : List (BA × BA)) (c : BA) : BA := (look H c).getD ⟨#[]⟩
def up (H : List (BA × BA)) : Nat → BA → BA
  | 0, c => c
  | k + 1, c => up H k (sup H c)
theorem up_add (H : List (BA × BA)) (i k : Nat) (c : BA) : up H (i + k) c = up H k (up H i c) := by
  induction i generalizing c with
  | zero => simp [up]
  | succ i ih =>
    rw [show i + 1 + k = (i + k) + 1 from by omega]
    exact ih (sup H c)
theorem up_succ (H : List (BA × BA)) (k : Nat) (c : BA) : up H (k + 1) c = sup H (up H k c) := up_add H k 1 c
theorem loops_true (H : List (BA × BA)) (c : BA) (k : Nat) : ∀ (n : Nat) (s : BA), k < n → up H k s = c → (∀ t, t < k → up H t s ≠ obj) → loopsN H c n s = true := by
  induction k with
  | zero =>
    intro n s hn hu _
    obtain ⟨n, rfl⟩ : ∃ m, n = m + 1 := ⟨n - 1, by omega⟩
    rw [loopsN_succ, if_pos (show s = c from hu)]
  | succ k ih =>
    intro n s hn hu ht
    obtain ⟨n, rfl⟩ : ∃ m, n = m + 1 := ⟨n - 1, by omega⟩
    rw [loopsN_succ]
    by_cases h1 : s = c
    · rw [if_pos h1]
    · rw [if_neg h1, if_neg (show ¬ s = obj from ht 0 (by omega))]
      exact ih n (sup H s) (by omega) hu (fun t h => ht (t + 1) (by omega))
theorem look_some_mem {H : List (BA × BA)} {c : BA} (h : (look H c).isSome = true) : c ∈ H.map (·.1) := by
  obtain ⟨s, hs⟩ := Option.isSome_iff_exists.1 h
  exact List.mem_map.2 ⟨(c, s), look_mem hs, rfl⟩
/-- What is asked of classes: each one's class above is there, and none is above itself. -/
structure Good (H : List (BA × BA)) : Prop where
  len : H.length ≤ 64
  obj_ : look H obj = some ⟨#[]⟩
  sup_ : ∀ c s, look H c = some s → c ≠ obj → (look H s).isSome = true
  loop : ∀ c s, look H c = some s → c ≠ obj → loopsF H (c, s) = false
theorem Good.reach {H : List (BA × BA)} (g : Good H) (x : BA) (hx : (look H x).isSome = true) : ∃ n, n ≤ H.length ∧ up H n x = obj ∧ ∀ t, t ≤ n → (look H (up H t x)).isSome = true := by
  apply Classical.byContradiction
  intro hne
  have hin : ∀ n, n ≤ H.length → (∀ t, t ≤ n → (look H (up H t x)).isSome = true ∧ up H t x ≠ obj) := by
    intro n
    induction n with
    | zero =>
      intro hn t ht
      have : t = 0 := by omega
      subst this
      exact ⟨hx, fun e => hne ⟨0, hn, e, fun t ht => by have : t = 0 := by omega
                                                        subst this; exact hx⟩⟩
    | succ n ih =>
      intro hn t ht
      have h := ih (by omega)
      rcases Nat.lt_or_ge t (n + 1) with h1 | h1
      · exact h t (by omega)
      · have : t = n + 1 := by omega
        subst this
        obtain ⟨h2, h3⟩ := h n (Nat.le_refl _)
        obtain ⟨s, hs⟩ := Option.isSome_iff_exists.1 h2
        have h4 : (look H (up H (n + 1) x)).isSome = true := by
          rw [up_succ]
          have : sup H (up H n x) = s := by unfold sup; rw [hs]; rfl
          rw [this]
          exact g.sup_ _ s hs h3
        refine ⟨h4, fun e => hne ⟨n + 1, hn, e, fun t ht => ?_⟩⟩
        rcases Nat.lt_or_ge t (n + 1) with h5 | h5
        · exact (h t (by omega)).1
        · have : t = n + 1 := by omega
          subst this
          exact h4
  have hall := hin H.length (Nat.le_refl _)
  obtain ⟨i, j, hij, hj, he⟩ := pigeon (fun n => up H n x) (H.map (·.1)) (fun n hn => look_some_mem (hall n (by simpa using hn)).1)
  rw [List.length_map] at hj
  obtain ⟨h1, h2⟩ := hall i (by omega)
  obtain ⟨s, hs⟩ := Option.isSome_iff_exists.1 h1
  have hl := g.loop _ s hs h2
  have hsx : sup H (up H i x) = s := by unfold sup; rw [hs]; rfl
  have ht : loopsN H (up H i x) H.length s = true := by
    refine loops_true H _ (j - i - 1) _ _ (by omega) ?_ ?_
    · rw [← hsx, ← up_succ, ← up_add, show i + 1 + (j - i - 1) = j from by omega]
      exact he.symm
    · intro t htl
      rw [← hsx, ← up_succ, ← up_add]
      exact (hall (i + 1 + t) (by omega)).2
  unfold loopsF at hl
  simp only at hl
  rw [ht] at hl
  cases hl
theorem chain_reach {H : List (BA × BA)} (n : Nat) : ∀ (x : BA) (k : Nat), up H n x = obj → (∀ t, t ≤ n → (look H (up H t x)).isSome = true) → n + 2 ≤ k → ∃ l, chainN H k x true = some l ∧ l.length ≤ n + 1 := by
  induction n with
  | zero =>
    intro x k hu hs hk
    obtain ⟨k, rfl⟩ : ∃ m, k = m + 2 := ⟨k - 2, by omega⟩
    have hx : x = obj := hu
    obtain ⟨s, hl⟩ := Option.isSome_iff_exists.1 (hs 0 (Nat.le_refl _))
    have hl2 : look H x = some s := hl
    refine ⟨[x], ?_, by simp⟩
    rw [chainN_succ, if_pos rfl]
    unfold superF
    rw [hl2, hx]
    simp [chainN_succ]
  | succ n ih =>
    intro x k hu hs hk
    obtain ⟨k, rfl⟩ : ∃ m, k = m + 1 := ⟨k - 1, by omega⟩
    obtain ⟨s, hl⟩ := Option.isSome_iff_exists.1 (hs 0 (by omega))
    have hl2 : look H x = some s := hl
    have hsx : sup H x = s := by unfold sup; rw [hl2]; rfl
    rw [chainN_succ, if_pos rfl]
    unfold superF
    rw [hl2]
    by_cases hx : x = obj
    · refine ⟨[x], ?_, by simp⟩
      obtain ⟨k, rfl⟩ : ∃ m, k = m + 1 := ⟨k - 1, by omega⟩
      simp [hx, chainN_succ]
    · obtain ⟨l, h1, h2⟩ := ih s k (by rw [← hsx]; exact hu) (fun t ht => by have := hs (t + 1) (by omega); rw [← hsx]; exact this) (by omega)
      refine ⟨x :: l, ?_, by simp; omega⟩
      simp [hx, h1]
theorem Good.tot {H : List (BA × BA)} (g : Good H) : Tot H := by
  intro x
  have : ∃ l, chainN H 100 x (look H x).isSome = some l ∧ l.length ≤ 100 := by
    cases hx : (look H x).isSome with
    | false => exact ⟨[], rfl, by simp⟩
    | true =>
      obtain ⟨n, hn, hu, hs⟩ := g.reach x hx
      have := g.len
      obtain ⟨l, h1, h2⟩ := chain_reach n x 100 hu hs (by omega)
      exact ⟨l, h1, by omega⟩
  obtain ⟨l, h1, h2⟩ := this
  have e : chainF H x = l := by unfold chainF; rw [h1]; rfl
  rw [e]
  exact ⟨h1, h2⟩
theorem fill_spec : ∀ (L H G : List (BA × BA)), fillF H L = .ok G → G = H ++ L ∧ (∀ c, (look H c).isSome = true → look G c = look H c) ∧ ∀ p ∈ L, look G p.1 = some p.2 ∧ look H p.1 = none
  | [], H, G, h => by
    rw [fillF_nil] at h
    injection h with h
    subst h
    exact ⟨by simp, fun _ _ => rfl, fun p hp => by cases hp⟩
  | p :: r, H, G, h => by
    rw [fillF_cons] at h
    by_cases hl : (look H p.1).isSome = true
    · rw [if_pos hl] at h
      cases h
    · rw [if_neg hl] at h
      obtain ⟨h1, h2, h3⟩ := fill_spec r (H ++ [p]) G h
      have hn : look H p.1 = none := by simpa using hl
      refine ⟨by rw [h1]; simp, fun c hc => ?_, fun q hq => ?_⟩
      · have : c ≠ p.1 := fun e => by rw [e, hn] at hc; cases hc
        have e2 : look (H ++ [p]) c = look H c := by rw [look_push hn, if_neg this]
        rw [h2 c (by rw [e2]; exact hc), e2]
      · rcases List.mem_cons.1 hq with rfl | hq
        · have e2 : look (H ++ [q]) q.1 = some q.2 := by rw [look_push hn, if_pos rfl]
          exact ⟨by rw [h2 q.1 (by rw [e2]; rfl), e2], hn⟩
        · obtain ⟨h4, h5⟩ := h3 q hq
          refine ⟨h4, ?_⟩
          rw [look_push hn] at h5
          split at h5
          · cases h5
          · exact h5
theorem none_spec : ∀ (L H : List (BA × BA)), noneF H L = none → ∀ p ∈ L, (look H p.2).isSome = true
  | [], _, _, p, hp => by cases hp
  | q :: r, H, h, p, hp => by
    rw [noneF_cons] at h
    by_cases hl : (look H q.2).isSome = true
    · rw [if_pos hl] at h
      rcases List.mem_cons.1 hp with rfl | hp
      · exact hl
      · exact none_spec r H h p hp
    · rw [if_neg hl] at h
      cases h
theorem loop_spec : ∀ (L H : List (BA × BA)), loopF H L = none → ∀ p ∈ L, loopsF H p = false
  | [], _, _, p, hp => by cases hp
  | q :: r, H, h, p, hp => by
    rw [loopF_cons] at h
    by_cases hl : loopsF H q = true
    · rw [if_pos hl] at h
      cases h
    · rw [if_neg hl] at h
      rcases List.mem_cons.1 hp with rfl | hp
      · simpa using hl
      · exact loop_spec r H h p hp
theorem base_look : ∀ p ∈ base, look base p.1 = some p.2 := by decide +kernel
theorem base_sup : ∀ p ∈ base, p.1 ≠ obj → (look base p.2).isSome = true ∧ (p.2 = obj ∨ (p.2 = exc ∧ p.1 ≠ exc)) := by decide +kernel
theorem base_exc : look base exc = some obj ∧ look base obj = some ⟨#[]⟩ ∧ exc ≠ obj := by decide +kernel
theorem new_good {L H : List (BA × BA)} {c : BA} {k : Int} (h : newF L = (some H, c, k)) : Good H ∧ H = base ++ L ∧ L.length ≤ 32 := by
  unfold newF at h
  by_cases h32 : 32 < L.length
  · rw [if_pos h32] at h
    injection h with h _
    cases h
  · rw [if_neg h32] at h
    cases hf : fillF base L with
    | error c => rw [hf] at h; injection h with h _; cases h
    | ok G =>
      rw [hf] at h
      simp only at h
      unfold restF at h
      cases hn : noneF G L with
      | some c => rw [hn] at h; injection h with h _; cases h
      | none =>
        rw [hn] at h
        simp only at h
        cases hlo : loopF G L with
        | some c => rw [hlo] at h; injection h with h _; cases h
        | none =>
          rw [hlo] at h
          injection h with h _
          injection h with h
          subst h
          obtain ⟨f1, f2, f3⟩ := fill_spec L base G hf
          have n1 := none_spec L G hn
          have l1 := loop_spec L G hlo
          have hbl : base.length = 9 := rfl
          have hlen : G.length = 9 + L.length := by rw [f1, List.length_append, hbl]
          have hin : ∀ c s, look G c = some s → (c, s) ∈ base ∨ (c, s) ∈ L := fun c s hs => by
            have := look_mem hs
            rw [f1] at this
            exact List.mem_append.1 this
          have eo : look G obj = some ⟨#[]⟩ := by rw [f2 obj (by rw [base_exc.2.1]; rfl), base_exc.2.1]
          have ee : look G exc = some obj := by rw [f2 exc (by rw [base_exc.1]; rfl), base_exc.1]
          refine ⟨⟨by omega, eo, fun c s hs hc => ?_, fun c s hs hc => ?_⟩, f1, by omega⟩
          · rcases hin c s hs with hb | hb
            · obtain ⟨q1, _⟩ := base_sup (c, s) hb hc
              rw [f2 s q1]
              exact q1
            · exact n1 (c, s) hb
          · rcases hin c s hs with hb | hb
            · obtain ⟨_, q2⟩ := base_sup (c, s) hb hc
              unfold loopsF
              obtain ⟨m, hm⟩ : ∃ m, G.length = m + 2 := ⟨G.length - 2, by omega⟩
              rw [hm]
              rcases q2 with e | ⟨e1, e2⟩
              · have e : s = obj := e
                subst e
                rw [loopsN_succ, if_neg (fun h => hc h.symm), if_pos rfl]
              · have e1 : s = exc := e1
                subst e1
                rw [loopsN_succ, if_neg (fun h => e2 h.symm), if_neg base_exc.2.2, ee]
                show loopsN G c (m + 1) obj = false
                rw [loopsN_succ, if_neg (fun h => hc h.symm), if_pos rfl]
            · exact l1 (c, s) hb
end Go.Proofs.YtefiliomfiomfadDoor
