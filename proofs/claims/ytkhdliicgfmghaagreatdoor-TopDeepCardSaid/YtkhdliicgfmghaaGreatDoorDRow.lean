/- TopDeep: calls within each other are as many as may be, and no more: the law answers true for every whole number; no conditions. -/
import Derived.Test.YtkhdliicgfmghaaGreatDoorCards
import Derived.Test.YtkhdliicgfmghaaGreatDoorT
import Derived.Test.YtkhdliicgfmghaaGreatDoorDW
import Derived.Test.YtkhdliicgfmghaaGreatDoorDF
import Derived.WalkKit
import Derived.ProofKit
import Derived.OpenShut
import Derived.ShutString
import Derived.ChangeOld
import Derived.Below
import Derived.SizedLaws
import Derived.LaidMore
import Derived.Lay
import Derived.SevenTiedAt
import Derived.Stop.Joined
namespace Go.Proofs.YtkhdliicgfmghaaGreatDoor.topDeep
open Go.ChangeShapes Go.WideShapes Go.ChangeAt Go.RowKit
open Go.ChangeMaps (open_string shut_string)
theorem own : ownKnob Tryz.prog.godebug = none := by kernel_rfl
set_option maxRecDepth 100000 in
theorem lifted (os : Os) (started : os.Started) (H : Type) (enc : TypeId × Value → H) :
    ReturnsInHanded {} Tryz.checked os 5 .any (fun w args => (Rows.topDeepSpec.pre enc Tryz.prog Tryz.f5 Rows.topDeepRow.domain false w args ∧ laidMetH Tryz.prog Rows.topDeepRow.laid w) ∧ sizedMet enc Tryz.prog Tryz.f5 (OpenSpec.ofChange Rows.topDeepSpec) false w args)
      (Rows.topDeepSpec.post enc Tryz.prog Tryz.f5 false true false false) := by
  refine returnsInHanded_of_change_and (C := Tryz.checked) (X := fun w _ => laidMetH Tryz.prog Rows.topDeepRow.laid w) (fun _ _ _ hh h => h.of_heap hh) own started (by kernel_rfl) Tryz.func5
    (ChangeSpec.witness_shaped (enc := enc) (C := Tryz.checked) (os := os) (X := fun w _ => laidMetH Tryz.prog Rows.topDeepRow.laid w) false (World.laidAll Tryz.prog os Rows.topDeepRow.laid) #[.int .i64 0] 8 (World.laidAll_os _ _ _)
      (World.shaped_of_ZipB (by kernel_rfl) (by kernel_rfl)) (by kernel_rfl) (by kernel_rfl) (by kernel_rfl)
      (by rw [MakeChecks.laidMetH_plain _ _ _ (by kernel_rfl)]; exact laidMet_laidAll _ (by kernel_rfl) (by kernel_rfl))) ?_
  intro W base args ds gs before hval0 hW hcnd _ hX _
  have hL : laidMet Tryz.prog Rows.topDeepRow.laid W := Eq.mp (MakeChecks.laidMetH_plain _ _ _ (by kernel_rfl)) hX
  have hval : ∀ (j : Nat) t v, Tryz.f5.params[j]? = some t → args[j]? = some v → Value.okWide Tryz.prog W .any base t v := hval0
  have hW' := hW
  obtain ⟨p, q, hA0, hV, rfl, hfz, hnd⟩ := hW
  have hA : DataW.TrodAll enc Tryz.prog W 0 (fun _ => true) true Tryz.f5.params.toList args.toList ds p := hA0
  rw [Tryz.params5] at hA hval
  obtain ⟨v0, vs0, d0, ds0, p0, q0, hargs, rfl, rfl, h0, r0⟩ := trodAll_cons hA
  obtain ⟨rfl, rfl, rfl⟩ := trodAll_nil r0
  obtain rfl : args = #[v0] := by cases args; simp_all
  obtain ⟨rfl, rfl⟩ := trodVars_none hV
  obtain ⟨a0, rfl, rfl, rfl, w0⟩ := open_int Tryz.underlying3 (hval 0 3 v0 rfl rfl) h0
  clear hA0 hval0
  refine (topDeep_row a0 W w0 hL).mono fun e W' ⟨he, bel⟩ => ?_
  subst he
  exact ⟨_, rfl, _, _, _, [], _, [], hW', trodAll_mk1 (shut_bool Tryz.underlying4 _), (trodAll_cons_mk (shut_int Tryz.underlying3 w0) trodAll_mk0), rfl, bel.frame _, fun h => by cases h⟩
theorem over : Rows.TopDeepSaid :=
  OpenClaim.holds_of_wide 5 Tryz.f5 rfl rfl rfl rfl rfl rfl rfl ⟨rfl, rfl, rfl, rfl, rfl⟩ rfl rfl rfl rfl rfl topDeepF.named Tryz.func5 topDeepF.joined topDeepF.inst topDeepF.wrap
    (fun os started H enc _ => lifted os started H enc)
theorem card : Rows.TopDeepCardSaid :=
  Claim7.holds_tied_plain_at .later [] [.data, .listed, .pinned, .data, .data] true (true, "464cd97bd335f9d931e3e3d2d892c247bb4778c4cf62583c347dffab18f795f0") true over (fun _ h => by cases h) topDeepF.wft (fun _ h => by cases h) topDeep_row_tie rfl ⟨rfl, rfl⟩ topDeepF.main rfl
    (fun f fn hf hfn => by
      obtain rfl : f = 5 := Option.some.inj (topDeepF.lawIs.symm.trans hf) |>.symm
      obtain rfl : fn = Tryz.f5 := (Option.some.inj (Tryz.func5.symm.trans hfn)).symm
      exact ⟨topDeepF.looks, fun j t ht => by
        rw [Tryz.params5] at ht
        have hm : t ∈ [3] := by simpa using Array.mem_of_getElem? ht
        exact (show Tryz.prog.wantsStandIn t = false by simpa using List.all_eq_true.1 topDeepF.stand t hm)⟩)
    topDeepF.goes
end Go.Proofs.YtkhdliicgfmghaaGreatDoor.topDeep
namespace Go.Proofs.YtkhdliicgfmghaaGreatDoor
theorem topDeep_holds : Rows.TopDeepCardSaid := topDeep.card
#print axioms topDeep_holds
end Go.Proofs.YtkhdliicgfmghaaGreatDoor
