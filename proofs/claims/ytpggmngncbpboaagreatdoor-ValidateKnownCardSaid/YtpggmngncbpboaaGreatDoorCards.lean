/-
  DERIVED. GIVEN WITH THE SEED: THE CARDS: each row of YtpggmngncbpboaaGreatDoorRows.lean that lists a variable, with what it lists TIED to the program's text (the seventh form; the later family's looks); each row that meets fmt, with fmt's text TOLD by the authors' own Lean function (tested against real Go, not proved from fmt's source: count such statements apart). THE CARD IS WHAT COUNTS. Prove the row's statement (the work); the ties are given (YtpggmngncbpboaaGreatDoorTie.lean); close each card by the builder's one call (the guide's Derived/Test/ToyasCard.lean, 'card_holds'). Laid BY PROGRAM, IN A SANDBOX (cutbox-door.mjs). By AI agents, Wed Nov 11 2026. No macro, syntax, notation, axiom, sorry.
-/
import Derived.Test.YtpggmngncbpboaaGreatDoorRows
import GoSem.ClaimSeven
namespace Go.Proofs.YtpggmngncbpboaaGreatDoor
namespace Rows

/-- THE TIED CARD OF 'waypostlaw31.ValidateRules'. -/
def validateRulesCard : Claim7 := { stood := { row := validateRulesRow, standIns := [], harness := (true, "ca47425186b24739e292c64caa5e369a16a8d355f6ae556ab6463d06f9dca855"), looks := true }, kinds := [], alts := [], laidByText := true, laidKinds := [.data, .data, .data, .data, .sentinel, .sentinel, .widerDeep, .data, .pinned], laidTests := true, laidLooks := .later }
def ValidateRulesCardSaid : Prop := Claim7.holds Tryz.pinned (.plain (OpenSpec.ofChange validateRulesSpec)) validateRulesCard

/-- THE TIED CARD OF 'waypostlaw31.ValidateKnown'. -/
def validateKnownCard : Claim7 := { stood := { row := validateKnownRow, standIns := [], harness := (true, "ca47425186b24739e292c64caa5e369a16a8d355f6ae556ab6463d06f9dca855"), looks := true }, kinds := [], alts := [], laidByText := true, laidKinds := [.data, .data, .data, .data, .sentinel, .sentinel, .widerDeep, .data, .data, .pinned], laidTests := true, laidLooks := .later }
def ValidateKnownCardSaid : Prop := Claim7.holds Tryz.pinned (.plain (OpenSpec.ofChange validateKnownSpec)) validateKnownCard

/-- THE TIED CARD OF 'waypostlaw31.ValidateParts'. -/
def validatePartsCard : Claim7 := { stood := { row := validatePartsRow, standIns := [], harness := (true, "ca47425186b24739e292c64caa5e369a16a8d355f6ae556ab6463d06f9dca855"), looks := true }, kinds := [], alts := [], laidByText := true, laidKinds := [.data, .data, .data, .data, .sentinel, .sentinel, .widerDeep, .data, .data, .pinned], laidTests := true, laidLooks := .later }
def ValidatePartsCardSaid : Prop := Claim7.holds Tryz.pinned (.plain (OpenSpec.ofChange validatePartsSpec)) validatePartsCard

/-- THE TIED CARD OF 'waypostlaw31.ValidateFirst'. -/
def validateFirstCard : Claim7 := { stood := { row := validateFirstRow, standIns := [], harness := (true, "ca47425186b24739e292c64caa5e369a16a8d355f6ae556ab6463d06f9dca855"), looks := true }, kinds := [], alts := [], laidByText := true, laidKinds := [.data, .data, .data, .data, .sentinel, .sentinel, .widerDeep, .data, .data, .pinned], laidTests := true, laidLooks := .later }
def ValidateFirstCardSaid : Prop := Claim7.holds Tryz.pinned (.plain (OpenSpec.ofChange validateFirstSpec)) validateFirstCard

/-- THE TIED CARD OF 'waypostlaw31.ValidateNumbers'. -/
def validateNumbersCard : Claim7 := { stood := { row := validateNumbersRow, standIns := [], harness := (true, "ca47425186b24739e292c64caa5e369a16a8d355f6ae556ab6463d06f9dca855"), looks := true }, kinds := [], alts := [], laidByText := true, laidKinds := [.data, .data, .data, .data, .sentinel, .sentinel, .widerDeep, .data, .data, .pinned], laidTests := true, laidLooks := .later }
def ValidateNumbersCardSaid : Prop := Claim7.holds Tryz.pinned (.plain (OpenSpec.ofChange validateNumbersSpec)) validateNumbersCard

/-- THE TIED CARD OF 'waypostlaw31.ValidateConfigs'. -/
def validateConfigsCard : Claim7 := { stood := { row := validateConfigsRow, standIns := [], harness := (true, "ca47425186b24739e292c64caa5e369a16a8d355f6ae556ab6463d06f9dca855"), looks := true }, kinds := [], alts := [], laidByText := true, laidKinds := [.data, .data, .data, .data, .sentinel, .sentinel, .widerDeep, .data, .data, .pinned], laidTests := true, laidLooks := .later }
def ValidateConfigsCardSaid : Prop := Claim7.holds Tryz.pinned (.plain (OpenSpec.ofChange validateConfigsSpec)) validateConfigsCard

/-- THE TIED CARD OF 'waypostlaw31.ValidateSafe'. -/
def validateSafeCard : Claim7 := { stood := { row := validateSafeRow, standIns := [], harness := (true, "ca47425186b24739e292c64caa5e369a16a8d355f6ae556ab6463d06f9dca855"), looks := true }, kinds := [], alts := [], laidByText := true, laidKinds := [.data, .data, .data, .data, .sentinel, .sentinel, .widerDeep, .data, .pinned], laidTests := true, laidLooks := .later }
def ValidateSafeCardSaid : Prop := Claim7.holds Tryz.pinned (.plain (OpenSpec.ofChange validateSafeSpec)) validateSafeCard

/-- THE SECOND FORM's CARD OF 'waypostlaw31.ValidateRules'. -/
def validateRulesUptoCard : Claim7 := { stood := { row := validateRulesUptoRow, standIns := [], harness := (true, "ca47425186b24739e292c64caa5e369a16a8d355f6ae556ab6463d06f9dca855"), looks := true }, kinds := [], alts := [], laidByText := true, laidKinds := [.data, .data, .data, .data, .sentinel, .sentinel, .widerDeep, .data, .pinned], laidTests := true, laidLooks := .later }
def ValidateRulesUptoCardSaid : Prop := Claim7.holds Tryz.pinned (.plain (OpenSpec.upto validateRulesSpec)) validateRulesUptoCard

/-- THE SECOND FORM's CARD OF 'waypostlaw31.ValidateKnown'. -/
def validateKnownUptoCard : Claim7 := { stood := { row := validateKnownUptoRow, standIns := [], harness := (true, "ca47425186b24739e292c64caa5e369a16a8d355f6ae556ab6463d06f9dca855"), looks := true }, kinds := [], alts := [], laidByText := true, laidKinds := [.data, .data, .data, .data, .sentinel, .sentinel, .widerDeep, .data, .data, .pinned], laidTests := true, laidLooks := .later }
def ValidateKnownUptoCardSaid : Prop := Claim7.holds Tryz.pinned (.plain (OpenSpec.upto validateKnownSpec)) validateKnownUptoCard

/-- THE SECOND FORM's CARD OF 'waypostlaw31.ValidateParts'. -/
def validatePartsUptoCard : Claim7 := { stood := { row := validatePartsUptoRow, standIns := [], harness := (true, "ca47425186b24739e292c64caa5e369a16a8d355f6ae556ab6463d06f9dca855"), looks := true }, kinds := [], alts := [], laidByText := true, laidKinds := [.data, .data, .data, .data, .sentinel, .sentinel, .widerDeep, .data, .data, .pinned], laidTests := true, laidLooks := .later }
def ValidatePartsUptoCardSaid : Prop := Claim7.holds Tryz.pinned (.plain (OpenSpec.upto validatePartsSpec)) validatePartsUptoCard

/-- THE SECOND FORM's CARD OF 'waypostlaw31.ValidateFirst'. -/
def validateFirstUptoCard : Claim7 := { stood := { row := validateFirstUptoRow, standIns := [], harness := (true, "ca47425186b24739e292c64caa5e369a16a8d355f6ae556ab6463d06f9dca855"), looks := true }, kinds := [], alts := [], laidByText := true, laidKinds := [.data, .data, .data, .data, .sentinel, .sentinel, .widerDeep, .data, .data, .pinned], laidTests := true, laidLooks := .later }
def ValidateFirstUptoCardSaid : Prop := Claim7.holds Tryz.pinned (.plain (OpenSpec.upto validateFirstSpec)) validateFirstUptoCard

/-- THE SECOND FORM's CARD OF 'waypostlaw31.ValidateNumbers'. -/
def validateNumbersUptoCard : Claim7 := { stood := { row := validateNumbersUptoRow, standIns := [], harness := (true, "ca47425186b24739e292c64caa5e369a16a8d355f6ae556ab6463d06f9dca855"), looks := true }, kinds := [], alts := [], laidByText := true, laidKinds := [.data, .data, .data, .data, .sentinel, .sentinel, .widerDeep, .data, .data, .pinned], laidTests := true, laidLooks := .later }
def ValidateNumbersUptoCardSaid : Prop := Claim7.holds Tryz.pinned (.plain (OpenSpec.upto validateNumbersSpec)) validateNumbersUptoCard

/-- THE SECOND FORM's CARD OF 'waypostlaw31.ValidateConfigs'. -/
def validateConfigsUptoCard : Claim7 := { stood := { row := validateConfigsUptoRow, standIns := [], harness := (true, "ca47425186b24739e292c64caa5e369a16a8d355f6ae556ab6463d06f9dca855"), looks := true }, kinds := [], alts := [], laidByText := true, laidKinds := [.data, .data, .data, .data, .sentinel, .sentinel, .widerDeep, .data, .data, .pinned], laidTests := true, laidLooks := .later }
def ValidateConfigsUptoCardSaid : Prop := Claim7.holds Tryz.pinned (.plain (OpenSpec.upto validateConfigsSpec)) validateConfigsUptoCard

/-- THE SECOND FORM's CARD OF 'waypostlaw31.ValidateSafe'. -/
def validateSafeUptoCard : Claim7 := { stood := { row := validateSafeUptoRow, standIns := [], harness := (true, "ca47425186b24739e292c64caa5e369a16a8d355f6ae556ab6463d06f9dca855"), looks := true }, kinds := [], alts := [], laidByText := true, laidKinds := [.data, .data, .data, .data, .sentinel, .sentinel, .widerDeep, .data, .pinned], laidTests := true, laidLooks := .later }
def ValidateSafeUptoCardSaid : Prop := Claim7.holds Tryz.pinned (.plain (OpenSpec.upto validateSafeSpec)) validateSafeUptoCard
end Rows
end Go.Proofs.YtpggmngncbpboaaGreatDoor
