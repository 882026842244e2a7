/- ValidateKnown: the call in whatever world in which the listed variables read as the program lays them. -/
import Derived.Test.YtpggmngncbpboaaGreatDoorCards
import Derived.Test.YtpggmngncbpboaaGreatDoorTie
import Derived.WalkKit
import Derived.ProofKit
import Derived.OpenShut
import Derived.Deep.DeepHandedRow
import Derived.Test.YtpggmngncbpboaaGreatDoorEvKnown
import Derived.SevenTiedAt
namespace Go.Proofs.YtpggmngncbpboaaGreatDoor.known
open Go.ChangeShapes Go.WideShapes Go.ChangeAt Go.RowKit

theorem walk (W : World) (hL : laidMetH Tryz.prog Rows.validateKnownRow.laid W) : Calls Tryz.prog 4 #[] W fun e w' => e = .returned (.bool true) ∧ Below W.heap.size W w' :=
  Go.AE.closed_walk (p := (0, Go.AE.c4)) (by kernel_rfl) Go.AE.ev_known (by unfold laidMetH at hL; rwa [show (Rows.validateKnownRow.laid.filter fun x => x.2.handleName?.isSome) = [] from by kernel_rfl] at hL)

set_option maxRecDepth 100000 in
theorem contract (H : Type) (enc : TypeId × Value → H) (W : World) (base : Nat) (args : Array Value) (ds gs : List (DataW H)) (before : List MemPlace)
    (hval : ∀ (j : Nat) t v, Tryz.f4.params[j]? = some t → args[j]? = some v → Value.okWide Tryz.prog W .any base t v)
    (hW : DataW.Whole enc Tryz.prog Tryz.f4.params.toList Rows.validateKnownSpec.vars false W args.toList ds gs before) (hL : laidMetH Tryz.prog Rows.validateKnownRow.laid W) :
    Calls Tryz.prog 4 args W fun e W' => ∃ v, e = .returned v ∧ Rows.validateKnownSpec.post enc Tryz.prog Tryz.f4 false true false false W args v W' := by
  have hW' := hW
  obtain ⟨p, q, hA0, hV, rfl, hfz, hnd⟩ := hW
  have hA : DataW.TrodAll enc Tryz.prog W 0 (fun _ => true) true Tryz.f4.params.toList args.toList ds p := hA0
  rw [Tryz.params4] at hA
  obtain ⟨rfl, rfl, rfl⟩ := trodAll_none hA
  obtain ⟨rfl, rfl⟩ := trodVars_none hV
  clear hA0
  simp only [List.append_nil] at hW'
  refine (walk W hL).mono fun e W' ⟨he, hg⟩ => ?_
  subst he
  exact ⟨_, rfl, Go.AE.post_of_below (pa := []) (pv := []) hW' (fun _ _ _ => trodAll_cons_mk (shut_bool Tryz.underlying4 _) trodAll_mk0) (fun _ _ => trodAll_mk0) (fun _ _ => rfl) rfl
    hg (ok_one (by kernel_rfl) rfl (okWide_bool_mk Tryz.underlying4 _))⟩


end Go.Proofs.YtpggmngncbpboaaGreatDoor.known
