/- The statement's example law ValidateKnown returns true, in whatever world in which the listed package-level variables read as the program lays them: the row, and the card tied to the program's text. Conditions: those of the given card alone. -/
import Derived.Test.YtpggmngncbpboaaGreatDoorCards
import Derived.Test.YtpggmngncbpboaaGreatDoorTie
import Derived.WalkKit
import Derived.ProofKit
import Derived.OpenShut
import Derived.Deep.DeepHandedRow
import Derived.Test.YtpggmngncbpboaaGreatDoorKnownS
import Derived.Test.YtpggmngncbpboaaGreatDoorKnownP
import Derived.SevenTiedAt
namespace Go.Proofs.YtpggmngncbpboaaGreatDoor.known
open Go.ChangeShapes Go.WideShapes Go.ChangeAt Go.RowKit

theorem card : Rows.ValidateKnownCardSaid :=
  Claim7.holds_tied_plain_at .later [] _ _ _ _ said (fun _ h => by cases h) (by kernel_rfl) (fun _ h => by cases h) validateKnown_row_tie rfl ⟨rfl, rfl⟩ (by kernel_rfl) rfl plain (by kernel_rfl)
end Go.Proofs.YtpggmngncbpboaaGreatDoor.known
#print axioms Go.Proofs.YtpggmngncbpboaaGreatDoor.known.card
