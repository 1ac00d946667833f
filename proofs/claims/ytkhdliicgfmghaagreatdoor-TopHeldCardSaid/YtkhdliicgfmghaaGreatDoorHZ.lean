/- The runs of TopHeld joined: from the start its calls return true; no conditions but that the state is the start. -/
import Derived.KernelRfl
import Derived.Test.YtkhdliicgfmghaaGreatDoorHR00
import Derived.Test.YtkhdliicgfmghaaGreatDoorHR01
import Derived.Test.YtkhdliicgfmghaaGreatDoorHR02
import Derived.Test.YtkhdliicgfmghaaGreatDoorHR03
import Derived.Test.YtkhdliicgfmghaaGreatDoorHR04
import Derived.Test.YtkhdliicgfmghaaGreatDoorHR05
import Derived.Test.YtkhdliicgfmghaaGreatDoorHR06
import Derived.Test.YtkhdliicgfmghaaGreatDoorHR07
import Derived.Test.YtkhdliicgfmghaaGreatDoorHR08
import Derived.Test.YtkhdliicgfmghaaGreatDoorHR09
import Derived.Test.YtkhdliicgfmghaaGreatDoorHR10
import Derived.Test.YtkhdliicgfmghaaGreatDoorHR11
import Derived.Test.YtkhdliicgfmghaaGreatDoorHR12
import Derived.Test.YtkhdliicgfmghaaGreatDoorHR13
import Derived.Test.YtkhdliicgfmghaaGreatDoorHR14
import Derived.Test.YtkhdliicgfmghaaGreatDoorHR15
import Derived.Test.YtkhdliicgfmghaaGreatDoorHR16
import Derived.Test.YtkhdliicgfmghaaGreatDoorHR17
import Derived.Test.YtkhdliicgfmghaaGreatDoorHR18
import Derived.Test.YtkhdliicgfmghaaGreatDoorHR19
import Derived.Test.YtkhdliicgfmghaaGreatDoorHR20
import Derived.Test.YtkhdliicgfmghaaGreatDoorHR21
import Derived.Test.YtkhdliicgfmghaaGreatDoorHR22
import Derived.Test.YtkhdliicgfmghaaGreatDoorHR23
import Derived.Test.YtkhdliicgfmghaaGreatDoorHR24
import Derived.Test.YtkhdliicgfmghaaGreatDoorHR25
import Derived.Test.YtkhdliicgfmghaaGreatDoorHR26
import Derived.Test.YtkhdliicgfmghaaGreatDoorHR27
import Derived.Test.YtkhdliicgfmghaaGreatDoorHR28
import Derived.Test.YtkhdliicgfmghaaGreatDoorHR29
import Derived.Test.YtkhdliicgfmghaaGreatDoorHR30
import Derived.Test.YtkhdliicgfmghaaGreatDoorHR31
import Derived.Test.YtkhdliicgfmghaaGreatDoorHR32
import Derived.Test.YtkhdliicgfmghaaGreatDoorHR33
open Go Go.Ev
namespace KT
theorem xs : XS P X := XS.of (f0 := 475) (by kernel_rfl) (by kernel_rfl) (by kernel_rfl) (by kernel_rfl) (by kernel_rfl)
theorem hm : P.follows .mixedOrders = true := by kernel_rfl
variable {args : Array Value} {w : World} {m : Bool} {u j c : Nat}
theorem pre (h : From P X j 3 args w (s0 m u)) : From P X j 3 args w (ca m u) :=
  have h := h.run xs hm (ka1 m u)
  have h := h.run xs hm (ka2 m u)
  have h := h.run xs hm (ka3 m u)
  have h := h.run xs hm (ka4 m u)
  have h := h.run xs hm (ka5 m u)
  have h := h.run xs hm (ka6 m u)
  have h := h.run xs hm (ka7 m u)
  have h := h.run xs hm (ka8 m u)
  have h := h.run xs hm (ka9 m u)
  have h := h.run xs hm (ka10 m u)
  have h := h.run xs hm (ka11 m u)
  have h := h.run xs hm (ka12 m u)
  have h := h.run xs hm (ka13 m u)
  have h := h.run xs hm (ka14 m u)
  (h.run xs hm (kb1 m u)).run xs hm (kca m u)
theorem pos : ∀ {c : Nat}, c < 10 → From P X j 3 args w (cb m u (.i 3 c)) → From P X j 3 args w (t7 m u c)
  | 0, _, h => h.run xs hm (kp0 m u)
  | 1, _, h => h.run xs hm (kp1 m u)
  | 2, _, h => h.run xs hm (kp2 m u)
  | 3, _, h => h.run xs hm (kp3 m u)
  | 4, _, h => h.run xs hm (kp4 m u)
  | 5, _, h => h.run xs hm (kp5 m u)
  | 6, _, h => h.run xs hm (kp6 m u)
  | 7, _, h => h.run xs hm (kp7 m u)
  | 8, _, h => h.run xs hm (kp8 m u)
  | 9, _, h => h.run xs hm (kp9 m u)
  | c + 10, hc, _ => absurd hc (by omega)
theorem neg : ∀ {c : Nat}, 0 < c → c < 10 → From P X j 3 args w (cb m u (.i 3 (18446744073709551616 - c))) → From P X j 3 args w (t7 m u (10 - c))
  | 0, hc, _, _ => absurd hc (by omega)
  | 1, _, _, h => h.run xs hm (kn1 m u)
  | 2, _, _, h => h.run xs hm (kn2 m u)
  | 3, _, _, h => h.run xs hm (kn3 m u)
  | 4, _, _, h => h.run xs hm (kn4 m u)
  | 5, _, _, h => h.run xs hm (kn5 m u)
  | 6, _, _, h => h.run xs hm (kn6 m u)
  | 7, _, _, h => h.run xs hm (kn7 m u)
  | 8, _, _, h => h.run xs hm (kn8 m u)
  | 9, _, _, h => h.run xs hm (kn9 m u)
  | c + 10, _, hc, _ => absurd hc (by omega)
theorem dig : ∀ {c : Nat}, c < 10 → From P X c 3 args w (t7 m u c) → From P X c 3 args w (m0 m)
  | 0, _, h => ((h.run xs hm (ke0 m u)).cell rfl).env (km0 m u)
  | 1, _, h => ((h.run xs hm (ke1 m u)).cell rfl).env (km1 m u)
  | 2, _, h => ((h.run xs hm (ke2 m u)).cell rfl).env (km2 m u)
  | 3, _, h => ((h.run xs hm (ke3 m u)).cell rfl).env (km3 m u)
  | 4, _, h => ((h.run xs hm (ke4 m u)).cell rfl).env (km4 m u)
  | 5, _, h => ((h.run xs hm (ke5 m u)).cell rfl).env (km5 m u)
  | 6, _, h => ((h.run xs hm (ke6 m u)).cell rfl).env (km6 m u)
  | 7, _, h => ((h.run xs hm (ke7 m u)).cell rfl).env (km7 m u)
  | 8, _, h => ((h.run xs hm (ke8 m u)).cell rfl).env (km8 m u)
  | 9, _, h => ((h.run xs hm (ke9 m u)).cell rfl).env (km9 m u)
  | c + 10, hc, _ => absurd hc (by omega)
theorem finF (h : From P X j 3 args w (m0 false)) : Calls P 3 args w (fun e w' => e = .returned (.bool true) ∧ RowKit.Below w.heap.size w w') :=
  h.last xs hm kfz
theorem finG (h : From P X j 3 args w (m0 true)) : Calls P 3 args w (fun e w' => e = .returned (.bool true) ∧ RowKit.Below w.heap.size w w') :=
  have h := h.run xs hm kg1
  have h := h.run xs hm kg2
  have h := h.run xs hm kg3
  have h := h.run xs hm kg4
  have h := h.run xs hm kg5
  have h := h.run xs hm kg6
  have h := h.run xs hm kg7
  have h := h.run xs hm kg8
  have h := h.run xs hm kg9
  have h := h.run xs hm kg10
  have h := h.run xs hm kg11
  have h := h.run xs hm kg12
  have h := h.run xs hm kg13
  have h := h.run xs hm kg14
  have h := h.run xs hm kg15
  have h := h.run xs hm kg16
  have h := h.run xs hm kg17
  h.last xs hm kgz
theorem held {m : Bool} {z : Int} (hs : ∀ j, From P X j 3 args w (s0 m (uOf .i64 z))) : Calls P 3 args w (fun e w' => e = .returned (.bool true) ∧ RowKit.Below w.heap.size w w') := by
  have key : ∃ j, From P X j 3 args w (m0 m) := by
    obtain ⟨c, hc, h⟩ := rem10 (uOf .i64 z) (uOf64_lt z)
    rcases h with h | ⟨h0, h⟩
    · have h1 := (pre (hs c)).one xs hm (kcb _ _ _ rfl) (by rw [h]; rfl)
      rw [h] at h1
      exact ⟨c, dig hc (pos hc h1)⟩
    · have h1 := (pre (hs (10 - c))).one xs hm (kcb _ _ _ rfl) (by rw [h]; rfl)
      rw [h] at h1
      exact ⟨10 - c, dig (by omega) (neg h0 hc h1)⟩
  obtain ⟨j, hj⟩ := key
  cases m
  · exact finF hj
  · exact finG hj
theorem started {A B : List AV} {m : Bool} {z : Int} (hz : inR .i64 z) (hA : LaidR w j 0 2 46 A) (hB : LaidR w j 1 16 16 B) (hs0 : startH 520 2 46 (pushB (grpL 2 46 A) 0 .e) 567 16 16 (pushB (grpL 16 16 B) 0 .e) (psN 30) = mkH [(0,o10),(1,o11)] 30 1) :
    From P X j 3 #[.bool m, .int .i64 z] w (s0 m (uOf .i64 z)) := by
  have h := HR.start (P := P) hA hB (tA := 520) (tB := 567) (nx := psN 30) (by decide)
  rw [hs0] at h
  exact From.start h.1 h.2 (.cons (.b m) (.cons (VR.i64 hz) .nil))
end KT
