/- The reference's look for a loop finds what the program's finds: plain. -/
import Derived.Test.YtefiliomfiomfadDoorRefNew
namespace Go.Proofs.YtefiliomfiomfadDoor

/-- Once a loop of the program's has found its name, the reference's has it, too, in any more rounds. -/
theorem loops_ref {H : List (BA × BA)} (hobj : (look H obj).isSome = true) (hs : ∀ c s, look H c = some s → c ≠ obj → (look H s).isSome = true) (name : BA) :
    ∀ (k m : Nat) (s : BA), k ≤ m → (look H s).isSome = true → loopsN H name k s = true → loopRN H name m s true = true
  | 0, _, _, _, _, h => by rw [loopsN_zero] at h; cases h
  | k + 1, m, s, hm, hl, h => by
    obtain ⟨m, rfl⟩ : ∃ q, m = q + 1 := ⟨m - 1, by omega⟩
    rw [loopsN_succ] at h
    rw [loopRN_succ, if_pos rfl]
    by_cases h1 : s = name
    · rw [if_pos h1]
    · rw [if_neg h1] at h ⊢
      by_cases h2 : s = obj
      · rw [if_pos h2] at h; cases h
      · rw [if_neg h2] at h
        obtain ⟨t, ht⟩ := Option.isSome_iff_exists.1 hl
        have e : superF H s = (t, true) := by unfold superF; rw [ht]; simp [h2]
        rw [e]
        have e2 : (look H s).getD ⟨#[]⟩ = t := by rw [ht]; rfl
        rw [e2] at h
        exact loops_ref hobj hs name k m t (by omega) (hs s t ht h2) h
/-- Where the names come again, no more rounds help. -/
theorem up_again {H : List (BA × BA)} {i j : Nat} {s : BA} (hij : i < j) (h : up H i s = up H j s) : ∀ k, ∃ t, t < j ∧ up H k s = up H t s := by
  intro k
  induction k using Nat.strongRecOn with
  | _ k ih =>
    rcases Nat.lt_or_ge k j with hk | hk
    · exact ⟨k, hk, rfl⟩
    · obtain ⟨t, ht, e⟩ := ih (k - (j - i)) (by omega)
      refine ⟨t, ht, ?_⟩
      rw [← e, show k = j + (k - j) from by omega, up_add, ← h, ← up_add, show i + (k - j) = j + (k - j) - (j - i) from by omega]
theorem loops_none {H : List (BA × BA)} (name : BA) : ∀ (k : Nat) (s : BA), loopsN H name k s = false → (∀ t, t < k → up H t s ≠ obj) → ∀ t, t < k → up H t s ≠ name
  | 0, _, _, _, t, ht => by omega
  | k + 1, s, h, ho, t, ht => by
    rw [loopsN_succ] at h
    by_cases h1 : s = name
    · rw [if_pos h1] at h; cases h
    · rw [if_neg h1, if_neg (show ¬ s = obj from ho 0 (by omega))] at h
      cases t with
      | zero => exact h1
      | succ t => exact loops_none name k (sup H s) h (fun q hq => ho (q + 1) (by omega)) t (by omega)
theorem ref_never {H : List (BA × BA)} (name : BA) : ∀ (m : Nat) (s : BA) (ok : Bool), (∀ t, up H t s ≠ name) → (∀ t, (look H (up H t s)).isSome = true) → loopRN H name m s ok = false
  | 0, _, _, _, _ => loopRN_zero ..
  | m + 1, s, ok, h, hl => by
    rw [loopRN_succ]
    cases ok with
    | false => rfl
    | true =>
      rw [if_pos rfl, if_neg (show ¬ s = name from h 0)]
      obtain ⟨t, ht⟩ := Option.isSome_iff_exists.1 (hl 0)
      have ht2 : look H s = some t := ht
      have e : (superF H s).1 = sup H s := by unfold superF sup; rw [ht2]; rfl
      rw [e]
      exact ref_never name m (sup H s) _ (fun q => h (q + 1)) (fun q => hl (q + 1))
theorem ref_obj {H : List (BA × BA)} (hobj : look H obj = some ⟨#[]⟩) (name : BA) (hn : obj ≠ name) (m : Nat) (ok : Bool) : loopRN H name m obj ok = false := by
  cases m with
  | zero => rfl
  | succ m =>
    rw [loopRN_succ]
    cases ok with
    | false => rfl
    | true =>
      rw [if_pos rfl, if_neg hn]
      have e : superF H obj = (⟨#[]⟩, false) := by unfold superF; rw [hobj]; simp
      rw [e]
      cases m with
      | zero => rfl
      | succ m => rw [loopRN_succ]; rfl
/-- A walk that comes to Object ahead of the name. -/
theorem ref_to_obj {H : List (BA × BA)} (hobj : look H obj = some ⟨#[]⟩) (name : BA) (hn : obj ≠ name) : ∀ (k m : Nat) (s : BA), loopsN H name (k + 1) s = false → up H k s = obj → (∀ t, t ≤ k → (look H (up H t s)).isSome = true) → loopRN H name m s true = false
  | 0, m, s, _, hu, _ => by
    have hu : s = obj := hu
    subst hu
    exact ref_obj hobj name hn m true
  | k + 1, m, s, h, hu, hl => by
    by_cases h2 : s = obj
    · subst h2
      exact ref_obj hobj name hn m true
    · cases m with
      | zero => rfl
      | succ m =>
        rw [loopsN_succ] at h
        rw [loopRN_succ, if_pos rfl]
        by_cases h1 : s = name
        · rw [if_pos h1] at h; cases h
        · rw [if_neg h1, if_neg h2] at h
          rw [if_neg h1]
          obtain ⟨t, ht⟩ := Option.isSome_iff_exists.1 (hl 0 (by omega))
          have ht2 : look H s = some t := ht
          have e : superF H s = (t, true) := by unfold superF; rw [ht2]; simp [h2]
          have e2 : sup H s = t := by unfold sup; rw [ht2]; rfl
          rw [e]
          have e3 : (look H s).getD ⟨#[]⟩ = t := by rw [ht2]; rfl
          rw [e3] at h
          exact ref_to_obj hobj name hn k m t h (by rw [← e2]; exact hu) (fun q hq => by have := hl (q + 1) (by omega); rw [← e2]; exact this)
theorem loops_less {H : List (BA × BA)} (name : BA) : ∀ (k m : Nat) (s : BA), loopsN H name (k + m) s = false → loopsN H name k s = false
  | 0, _, _, _ => rfl
  | k + 1, m, s, h => by
    rw [show k + 1 + m = (k + m) + 1 from by omega, loopsN_succ] at h
    rw [loopsN_succ]
    by_cases h1 : s = name
    · rw [if_pos h1] at h; cases h
    · rw [if_neg h1] at h ⊢
      by_cases h2 : s = obj
      · rw [if_pos h2]
      · rw [if_neg h2] at h ⊢
        exact loops_less name k m _ h
theorem first_hit {P : Nat → Prop} : ∀ (n t : Nat), t < n → P t → ∃ q, q ≤ t ∧ P q ∧ ∀ r, r < q → ¬ P r
  | 0, t, ht, _ => by omega
  | n + 1, t, ht, hp => by
    by_cases h : ∃ r, r < t ∧ P r
    · obtain ⟨r, hr, hpr⟩ := h
      obtain ⟨q, h1, h2, h3⟩ := first_hit n r (by omega) hpr
      exact ⟨q, by omega, h2, h3⟩
    · exact ⟨t, Nat.le_refl _, hp, fun r hr hpr => h ⟨r, hr, hpr⟩⟩
theorem loops_eq {H : List (BA × BA)} (hobj : look H obj = some ⟨#[]⟩) (hs : ∀ c s, look H c = some s → c ≠ obj → (look H s).isSome = true) (h60 : H.length ≤ 60) {c s : BA} (hc : look H c = some s) (hne : c ≠ obj) : loopRN H c 60 s true = loopsF H (c, s) := by
  have hl := hs c s hc hne
  unfold loopsF
  simp only
  cases hb : loopsN H c H.length s with
  | true => exact loops_ref (by rw [hobj]; rfl) hs c H.length 60 s h60 hl hb
  | false =>
    have hup : ∀ t, (∀ q, q < t → up H q s ≠ obj) → (look H (up H t s)).isSome = true := by
      intro t
      induction t with
      | zero => intro _; exact hl
      | succ t ih =>
        intro h
        have h1 := ih (fun q hq => h q (by omega))
        obtain ⟨u, hu⟩ := Option.isSome_iff_exists.1 h1
        rw [up_succ]
        have e : sup H (up H t s) = u := by unfold sup; rw [hu]; rfl
        rw [e]
        exact hs _ u hu (h t (by omega))
    by_cases hA : ∃ t, t < H.length ∧ up H t s = obj
    · obtain ⟨t, ht, hto⟩ := hA
      obtain ⟨q, hq, hqo, hqf⟩ := first_hit (P := fun t => up H t s = obj) (t + 1) t (by omega) hto
      have hle : loopsN H c (q + 1) s = false := by
        refine loops_less c (q + 1) (H.length - (q + 1)) s ?_
        rw [show q + 1 + (H.length - (q + 1)) = H.length from by omega]
        exact hb
      exact ref_to_obj hobj c (fun e => hne e.symm) q 60 s hle hqo (fun r hr => hup r (fun z hz => hqf z (by omega)))
    · have hno : ∀ t, t < H.length → up H t s ≠ obj := fun t ht e => hA ⟨t, ht, e⟩
      have hnn := loops_none c H.length s hb hno
      obtain ⟨i, j, hij, hj, he⟩ := pigeon (fun n => match n with | 0 => c | k + 1 => up H k s) (H.map (·.1)) (by
        intro n hn
        rw [List.length_map] at hn
        cases n with
        | zero => exact look_some_mem (by rw [hc]; rfl)
        | succ k => exact look_some_mem (hup k (fun q hq => hno q (by omega))))
      rw [List.length_map] at hj
      obtain ⟨j, rfl⟩ : ∃ q, j = q + 1 := ⟨j - 1, by omega⟩
      cases i with
      | zero => exact absurd he.symm (hnn j (by omega))
      | succ i =>
        have hag := up_again (i := i) (j := j) (by omega) he
        refine ref_never c 60 s true (fun k => ?_) (fun k => ?_)
        · obtain ⟨t, ht, e⟩ := hag k
          rw [e]
          exact hnn t (by omega)
        · obtain ⟨t, ht, e⟩ := hag k
          rw [e]
          exact hup t (fun q hq => hno q (by omega))
theorem newR_eq (L : List (BA × BA)) : newRF L = newF L := by
  unfold newRF newF
  by_cases h32 : 32 < L.length
  · rw [if_pos h32, if_pos h32]
  · rw [if_neg h32, if_neg h32]
    cases hf : fillF base L with
    | error c => rfl
    | ok G =>
      simp only
      unfold restRF restF
      cases hn : noneF G L with
      | some c => rfl
      | none =>
        simp only
        obtain ⟨f1, f2, f3⟩ := fill_spec L base G hf
        have n1 := none_spec L G hn
        have hbl : base.length = 9 := rfl
        have hlen : G.length = 9 + L.length := by rw [f1, List.length_append, hbl]
        have eo : look G obj = some ⟨#[]⟩ := by rw [f2 obj (by rw [base_exc.2.1]; rfl), base_exc.2.1]
        have hs : ∀ c s, look G c = some s → c ≠ obj → (look G s).isSome = true := by
          intro c s hcs hc
          have := look_mem hcs
          rw [f1] at this
          rcases List.mem_append.1 this with hb | hb
          · obtain ⟨q1, _⟩ := base_sup (c, s) hb hc
            rw [f2 s q1]
            exact q1
          · exact n1 (c, s) hb
        have hne : ∀ p ∈ L, p.1 ≠ obj := fun p hp e => by
          have := (f3 p hp).2
          rw [e, base_exc.2.1] at this
          cases this
        have key : ∀ r : List (BA × BA), (∀ p ∈ r, p ∈ L) → loopRF G r = loopF G r := by
          intro r
          induction r with
          | nil => intro _; rfl
          | cons p r ih =>
            intro h
            have hp := h p List.mem_cons_self
            rw [loopRF_cons, loopF_cons, loops_eq eo hs (by omega) (f3 p hp).1 (hne p hp), ih (fun q hq => h q (List.mem_cons_of_mem _ hq))]
        rw [key L (fun p hp => hp)]
        cases loopF G L <;> rfl
end Go.Proofs.YtefiliomfiomfadDoor
