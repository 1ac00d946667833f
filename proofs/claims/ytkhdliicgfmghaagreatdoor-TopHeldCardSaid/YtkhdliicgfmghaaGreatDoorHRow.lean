/- TopHeld: what a thread holds it holds behind an update, too: the law answers true for both truths and every whole number; no conditions. -/
import Derived.Test.YtkhdliicgfmghaaGreatDoorCards
import Derived.Test.YtkhdliicgfmghaaGreatDoorT
import Derived.Test.YtkhdliicgfmghaaGreatDoorHW
import Derived.Test.YtkhdliicgfmghaaGreatDoorHF
import Derived.WalkKit
import Derived.ProofKit
import Derived.OpenShut
import Derived.ShutString
import Derived.ChangeOld
import Derived.Below
import Derived.SizedLaws
import Derived.LaidMore
import Derived.Lay
import Derived.SevenTiedAt
import Derived.Stop.Joined
namespace Go.Proofs.YtkhdliicgfmghaaGreatDoor.topHeld
open Go.ChangeShapes Go.WideShapes Go.ChangeAt Go.RowKit
open Go.ChangeMaps (open_string shut_string)
theorem own : ownKnob Tryz.prog.godebug = none := by kernel_rfl
set_option maxRecDepth 100000 in
theorem lifted (os : Os) (started : os.Started) (H : Type) (enc : TypeId × Value → H) :
    ReturnsInHanded {} Tryz.checked os 3 .any (fun w args => (Rows.topHeldSpec.pre enc Tryz.prog Tryz.f3 Rows.topHeldRow.domain false w args ∧ laidMetH Tryz.prog Rows.topHeldRow.laid w) ∧ sizedMet enc Tryz.prog Tryz.f3 (OpenSpec.ofChange Rows.topHeldSpec) false w args)
      (Rows.topHeldSpec.post enc Tryz.prog Tryz.f3 false true false false) := by
  refine returnsInHanded_of_change_and (C := Tryz.checked) (X := fun w _ => laidMetH Tryz.prog Rows.topHeldRow.laid w) (fun _ _ _ hh h => h.of_heap hh) own started (by kernel_rfl) Tryz.func3
    (ChangeSpec.witness_shaped (enc := enc) (C := Tryz.checked) (os := os) (X := fun w _ => laidMetH Tryz.prog Rows.topHeldRow.laid w) false (World.laidAll Tryz.prog os Rows.topHeldRow.laid) #[.bool false, .int .i64 0] 8 (World.laidAll_os _ _ _)
      (World.shaped_of_ZipB (by kernel_rfl) (by kernel_rfl)) (by kernel_rfl) (by kernel_rfl) (by kernel_rfl)
      (by rw [MakeChecks.laidMetH_plain _ _ _ (by kernel_rfl)]; exact laidMet_laidAll _ (by kernel_rfl) (by kernel_rfl))) ?_
  intro W base args ds gs before hval0 hW hcnd _ hX _
  have hL : laidMet Tryz.prog Rows.topHeldRow.laid W := Eq.mp (MakeChecks.laidMetH_plain _ _ _ (by kernel_rfl)) hX
  have hval : ∀ (j : Nat) t v, Tryz.f3.params[j]? = some t → args[j]? = some v → Value.okWide Tryz.prog W .any base t v := hval0
  have hW' := hW
  obtain ⟨p, q, hA0, hV, rfl, hfz, hnd⟩ := hW
  have hA : DataW.TrodAll enc Tryz.prog W 0 (fun _ => true) true Tryz.f3.params.toList args.toList ds p := hA0
  rw [Tryz.params3] at hA hval
  obtain ⟨v0, vs0, d0, ds0, p0, q0, hargs, rfl, rfl, h0, r0⟩ := trodAll_cons hA
  obtain ⟨v1, vs1, d1, ds1, p1, q1, rfl, rfl, rfl, h1, r1⟩ := trodAll_cons r0
  obtain ⟨rfl, rfl, rfl⟩ := trodAll_nil r1
  obtain rfl : args = #[v0, v1] := by cases args; simp_all
  obtain ⟨rfl, rfl⟩ := trodVars_none hV
  obtain ⟨a0, rfl, rfl, rfl⟩ := open_bool Tryz.underlying4 (hval 0 4 v0 rfl rfl) h0
  obtain ⟨a1, rfl, rfl, rfl, w1⟩ := open_int Tryz.underlying3 (hval 1 3 v1 rfl rfl) h1
  clear hA0 hval0
  refine (topHeld_row a0 a1 W w1 hL).mono fun e W' ⟨he, bel⟩ => ?_
  subst he
  exact ⟨_, rfl, _, _, _, [], _, [], hW', trodAll_mk1 (shut_bool Tryz.underlying4 _), (trodAll_cons_mk (shut_bool Tryz.underlying4 _) (trodAll_cons_mk (shut_int Tryz.underlying3 w1) trodAll_mk0)), rfl, bel.frame _, fun h => by cases h⟩
theorem over : Rows.TopHeldSaid :=
  OpenClaim.holds_of_wide 3 Tryz.f3 rfl rfl rfl rfl rfl rfl rfl ⟨rfl, rfl, rfl, rfl, rfl⟩ rfl rfl rfl rfl rfl topHeldF.named Tryz.func3 topHeldF.joined topHeldF.inst topHeldF.wrap
    (fun os started H enc _ => lifted os started H enc)
theorem card : Rows.TopHeldCardSaid :=
  Claim7.holds_tied_plain_at .later [] [.data, .listed, .pinned, .data, .data] true (true, "464cd97bd335f9d931e3e3d2d892c247bb4778c4cf62583c347dffab18f795f0") true over (fun _ h => by cases h) topHeldF.wft (fun _ h => by cases h) topHeld_row_tie rfl ⟨rfl, rfl⟩ topHeldF.main rfl
    (fun f fn hf hfn => by
      obtain rfl : f = 3 := Option.some.inj (topHeldF.lawIs.symm.trans hf) |>.symm
      obtain rfl : fn = Tryz.f3 := (Option.some.inj (Tryz.func3.symm.trans hfn)).symm
      exact ⟨topHeldF.looks, fun j t ht => by
        rw [Tryz.params3] at ht
        have hm : t ∈ [4, 3] := by simpa using Array.mem_of_getElem? ht
        exact (show Tryz.prog.wantsStandIn t = false by simpa using List.all_eq_true.1 topHeldF.stand t hm)⟩)
    topHeldF.goes
end Go.Proofs.YtkhdliicgfmghaaGreatDoor.topHeld
namespace Go.Proofs.YtkhdliicgfmghaaGreatDoor
theorem topHeld_holds : Rows.TopHeldCardSaid := topHeld.card
#print axioms topHeld_holds
end Go.Proofs.YtkhdliicgfmghaaGreatDoor
