/- ValidateKnown: the name of the function, and that it is no instance and no wrapper. -/
import Derived.Test.YtpggmngncbpboaaGreatDoorCards
import Derived.Test.YtpggmngncbpboaaGreatDoorTie
import Derived.WalkKit
import Derived.ProofKit
import Derived.OpenShut
import Derived.Deep.DeepHandedRow
import Derived.SevenTiedAt
namespace Go.Proofs.YtpggmngncbpboaaGreatDoor.known
open Go.ChangeShapes Go.WideShapes Go.ChangeAt Go.RowKit

theorem named : Tryz.pinned.checked.prog.funcNamed Rows.validateKnownRow.func = some 4 := by kernel_rfl
theorem inst : Func.isInstance Tryz.pinned.checked.prog Tryz.f4 Rows.validateKnownRow.origin Rows.validateKnownRow.targs :=
  of_decide_eq_true (by kernel_rfl)
theorem wrap : Func.isWrapper Tryz.pinned.checked.prog Tryz.f4 Rows.validateKnownRow.wrapper Rows.validateKnownRow.mainSum := by
  unfold Func.isWrapper; first | (rw [if_pos (by decide +kernel)]; kernel_rfl) | (rw [if_neg (by decide +kernel)]; exact ⟨rfl, rfl⟩)
end Go.Proofs.YtpggmngncbpboaaGreatDoor.known
