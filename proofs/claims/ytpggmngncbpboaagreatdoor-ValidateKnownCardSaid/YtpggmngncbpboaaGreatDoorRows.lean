/-
  NARROWER THAN 'FOR EVERY INPUT', by the rows' own cells (each row's printed sentence says how): ValidateRules: laid · ValidateKnown: laid · ValidateParts: laid · ValidateFirst: laid · ValidateNumbers: laid · ValidateConfigs: laid · ValidateSafe: laid.
  DERIVED. THE GIVEN ROWS OF THIS SEAT. 7 by the template 'for every input the law returns true; each argument reads behind the call as it read before'; 0 by the template 'total and deterministic' (their statements: YtpggmngncbpboaaGreatDoorTotals.lean).
  GIVEN WITH THE SEED: the statements are not yours to turn. If you find one false, say at which input.
  Laid BY PROGRAM, IN A SANDBOX (cutbox-rows.mjs): the forced cells as the released guide's own fill.sh prints them over the translation a3dffd052cec9468… (all of the seat's roots in one cut). By AI agents, Wed Nov 11 2026. No macro, syntax, notation, axiom, sorry.
-/
import Derived.Test.YtpggmngncbpboaaGreatDoorChecked
import GoSem.PinnedTables
import GoSem.Claim
import GoSem.ClaimJoined
import GoSem.ClaimMapViews
import Derived.JoinedTies
import Derived.KernelRfl
namespace Go.Proofs.YtpggmngncbpboaaGreatDoor
/- THE CELL 'sum', in the pinned program and in every row, IS THE sha256 OF THE DUMP (.gsa) THAT YtpggmngncbpboaaGreatDoorProg.lean LOADS. Nothing in Lean hashes anything: it is a label: what it is worth is what the hold of that sum in a sandbox is worth. -/
noncomputable def Tryz.pinned : Pinned := { name := "ytpggmngncbpboaagreatdoor", sum := "a3dffd052cec9468cf76079be2afbf8c91a3c4b9ca24308e5d20395ae21a6c38", checked := Tryz.checked }
namespace Rows
def none {H : Type} : Left H := { results := [], args := [] }

/- WHAT THE LISTED PACKAGE-LEVEL VARIABLES READ AS WHEN THE CALL BEGINS. Each datum BY PROGRAM (the guide's laid-datum.mjs) off the statement by which the dump's own 'gosem.cut.vars' lays the variable. In a bare row this is a premise. The card (YtpggmngncbpboaaGreatDoorCards.lean) ties it to the program's text. -/
def laid_math_bits_deBruijn32tab {H : Type} : DataW H := .agg [.lit (.int .u8 0), .lit (.int .u8 1), .lit (.int .u8 28), .lit (.int .u8 2), .lit (.int .u8 29), .lit (.int .u8 14), .lit (.int .u8 24), .lit (.int .u8 3), .lit (.int .u8 30), .lit (.int .u8 22), .lit (.int .u8 20), .lit (.int .u8 15), .lit (.int .u8 25), .lit (.int .u8 17), .lit (.int .u8 4), .lit (.int .u8 8), .lit (.int .u8 31), .lit (.int .u8 27), .lit (.int .u8 13), .lit (.int .u8 23), .lit (.int .u8 21), .lit (.int .u8 19), .lit (.int .u8 16), .lit (.int .u8 7), .lit (.int .u8 26), .lit (.int .u8 12), .lit (.int .u8 18), .lit (.int .u8 6), .lit (.int .u8 11), .lit (.int .u8 5), .lit (.int .u8 10), .lit (.int .u8 9)]
def laid_math_bits_deBruijn64tab {H : Type} : DataW H := .agg [.lit (.int .u8 0), .lit (.int .u8 1), .lit (.int .u8 56), .lit (.int .u8 2), .lit (.int .u8 57), .lit (.int .u8 49), .lit (.int .u8 28), .lit (.int .u8 3), .lit (.int .u8 61), .lit (.int .u8 58), .lit (.int .u8 42), .lit (.int .u8 50), .lit (.int .u8 38), .lit (.int .u8 29), .lit (.int .u8 17), .lit (.int .u8 4), .lit (.int .u8 62), .lit (.int .u8 47), .lit (.int .u8 59), .lit (.int .u8 36), .lit (.int .u8 45), .lit (.int .u8 43), .lit (.int .u8 51), .lit (.int .u8 22), .lit (.int .u8 53), .lit (.int .u8 39), .lit (.int .u8 33), .lit (.int .u8 30), .lit (.int .u8 24), .lit (.int .u8 18), .lit (.int .u8 12), .lit (.int .u8 5), .lit (.int .u8 63), .lit (.int .u8 55), .lit (.int .u8 48), .lit (.int .u8 27), .lit (.int .u8 60), .lit (.int .u8 41), .lit (.int .u8 37), .lit (.int .u8 16), .lit (.int .u8 46), .lit (.int .u8 35), .lit (.int .u8 44), .lit (.int .u8 21), .lit (.int .u8 52), .lit (.int .u8 32), .lit (.int .u8 23), .lit (.int .u8 11), .lit (.int .u8 54), .lit (.int .u8 26), .lit (.int .u8 40), .lit (.int .u8 15), .lit (.int .u8 34), .lit (.int .u8 20), .lit (.int .u8 31), .lit (.int .u8 10), .lit (.int .u8 25), .lit (.int .u8 14), .lit (.int .u8 19), .lit (.int .u8 9), .lit (.int .u8 13), .lit (.int .u8 8), .lit (.int .u8 7), .lit (.int .u8 6)]
def laid_internal_strconv_uint64pow10 {H : Type} : DataW H := .agg [.lit (.int .u64 1), .lit (.int .u64 10), .lit (.int .u64 100), .lit (.int .u64 1000), .lit (.int .u64 10000), .lit (.int .u64 100000), .lit (.int .u64 1000000), .lit (.int .u64 10000000), .lit (.int .u64 100000000), .lit (.int .u64 1000000000), .lit (.int .u64 10000000000), .lit (.int .u64 100000000000), .lit (.int .u64 1000000000000), .lit (.int .u64 10000000000000), .lit (.int .u64 100000000000000), .lit (.int .u64 1000000000000000), .lit (.int .u64 10000000000000000), .lit (.int .u64 100000000000000000), .lit (.int .u64 1000000000000000000), .lit (.int .u64 10000000000000000000)]
def laid_unicode_utf8_acceptRanges {H : Type} : DataW H := .agg [.agg [.lit (.int .u8 128), .lit (.int .u8 191)], .agg [.lit (.int .u8 160), .lit (.int .u8 191)], .agg [.lit (.int .u8 128), .lit (.int .u8 159)], .agg [.lit (.int .u8 144), .lit (.int .u8 191)], .agg [.lit (.int .u8 128), .lit (.int .u8 143)], .agg [.lit (.int .u8 0), .lit (.int .u8 0)], .agg [.lit (.int .u8 0), .lit (.int .u8 0)], .agg [.lit (.int .u8 0), .lit (.int .u8 0)], .agg [.lit (.int .u8 0), .lit (.int .u8 0)], .agg [.lit (.int .u8 0), .lit (.int .u8 0)], .agg [.lit (.int .u8 0), .lit (.int .u8 0)], .agg [.lit (.int .u8 0), .lit (.int .u8 0)], .agg [.lit (.int .u8 0), .lit (.int .u8 0)], .agg [.lit (.int .u8 0), .lit (.int .u8 0)], .agg [.lit (.int .u8 0), .lit (.int .u8 0)], .agg [.lit (.int .u8 0), .lit (.int .u8 0)]]
def laid_strconv_ErrRange {H : Type} : DataW H := .iface "*errors.errorString" (.ptr (.agg [.lit (.string [118, 97, 108, 117, 101, 32, 111, 117, 116, 32, 111, 102, 32, 114, 97, 110, 103, 101])]))
def laid_strconv_ErrSyntax {H : Type} : DataW H := .iface "*errors.errorString" (.ptr (.agg [.lit (.string [105, 110, 118, 97, 108, 105, 100, 32, 115, 121, 110, 116, 97, 120])]))
def laid_waypost_flag_codes {H : Type} : DataW H := .agg [.lit (.int .i64 301), .lit (.int .i64 302), .lit (.int .i64 303), .lit (.int .i64 307), .lit (.int .i64 308)]
def laid_waypost_template_names {H : Type} : DataW H := .agg [.lit (.string []), .lit (.string [80, 65, 84, 72]), .lit (.string [81, 85, 69, 82, 89]), .lit (.string [72, 79, 83, 84]), .lit (.string [77, 69, 84, 72, 79, 68])]
/-- One of Go's own tables, pinned by name: the form's constant. -/
def laid_unicode_utf8_first : DataW Unit := Go.Pinned.utf8First
def laid_waypost_validate_nowhere {H : Type} : DataW H := .agg [.lit (.int .i64 (-1)), .lit (.int .i64 (-1)), .lit (.int .i64 (-1)), .lit (.int .i64 (-1))]

/-- 'waypostlaw31.ValidateRules': WHATEVER THE INPUT: true; the input reads as it did. -/
def validateRulesSpec : ChangeSpec := { name := "validateRules", fn := fun _ => fun
  | [d1, d2] => { results := [.lit (.bool true)], args := [d1, d2] }
  | _ => none }
def validateRulesRow : OpenClaim := { program := "ytpggmngncbpboaagreatdoor", sum := "a3dffd052cec9468cf76079be2afbf8c91a3c4b9ca24308e5d20395ae21a6c38", func := "waypost/waypostlaw31.ValidateRules", spec := "validateRules", inPlace := ["internal/bytealg.IndexByteString", "internal/bytealg.IndexString", "internal/bytealg.CountString", "internal/abi.NoEscape"], unfollowed := true, recurses := true, named := ["waypost/template.names", "internal/bytealg.MaxLen", "unicode/utf8.first", "unicode/utf8.acceptRanges", "strconv.ErrSyntax", "strconv.ErrRange", "internal/strconv.uint64pow10", "math/bits.deBruijn32tab", "math/bits.deBruijn64tab", "waypost/flag.codes"], apart := false, laid := [("math/bits.deBruijn32tab", laid_math_bits_deBruijn32tab), ("math/bits.deBruijn64tab", laid_math_bits_deBruijn64tab), ("internal/strconv.uint64pow10", laid_internal_strconv_uint64pow10), ("unicode/utf8.acceptRanges", laid_unicode_utf8_acceptRanges), ("strconv.ErrRange", laid_strconv_ErrRange), ("strconv.ErrSyntax", laid_strconv_ErrSyntax), ("waypost/flag.codes", laid_waypost_flag_codes), ("waypost/template.names", laid_waypost_template_names), ("unicode/utf8.first", laid_unicode_utf8_first)] }
def ValidateRulesSaid : Prop := validateRulesRow.holds Tryz.pinned (OpenSpec.ofChange validateRulesSpec)

/-- ITS FALSE NEIGHBOUR: 'it returns false'. Refute it at one input. -/
def validateRulesWrong : ChangeSpec := { name := "validateRules", fn := fun _ => fun
  | [d1, d2] => { results := [.lit (.bool false)], args := [d1, d2] }
  | _ => none }
def ValidateRulesWrongFalsely : Prop := validateRulesRow.holds Tryz.pinned (OpenSpec.ofChange validateRulesWrong)

/-- 'waypostlaw31.ValidateKnown': WHATEVER THE INPUT: true; the input reads as it did. -/
def validateKnownSpec : ChangeSpec := { name := "validateKnown", fn := fun _ => fun
  | [] => { results := [.lit (.bool true)], args := [] }
  | _ => none }
def validateKnownRow : OpenClaim := { program := "ytpggmngncbpboaagreatdoor", sum := "a3dffd052cec9468cf76079be2afbf8c91a3c4b9ca24308e5d20395ae21a6c38", func := "waypost/waypostlaw31.ValidateKnown", spec := "validateKnown", inPlace := ["internal/bytealg.IndexByteString", "internal/bytealg.IndexString", "internal/bytealg.CountString", "internal/abi.NoEscape"], unfollowed := true, recurses := true, named := ["waypost/template.names", "internal/bytealg.MaxLen", "unicode/utf8.first", "unicode/utf8.acceptRanges", "strconv.ErrSyntax", "strconv.ErrRange", "internal/strconv.uint64pow10", "math/bits.deBruijn32tab", "math/bits.deBruijn64tab", "waypost/flag.codes", "waypost/validate.nowhere"], apart := false, laid := [("math/bits.deBruijn32tab", laid_math_bits_deBruijn32tab), ("math/bits.deBruijn64tab", laid_math_bits_deBruijn64tab), ("internal/strconv.uint64pow10", laid_internal_strconv_uint64pow10), ("unicode/utf8.acceptRanges", laid_unicode_utf8_acceptRanges), ("strconv.ErrRange", laid_strconv_ErrRange), ("strconv.ErrSyntax", laid_strconv_ErrSyntax), ("waypost/flag.codes", laid_waypost_flag_codes), ("waypost/template.names", laid_waypost_template_names), ("waypost/validate.nowhere", laid_waypost_validate_nowhere), ("unicode/utf8.first", laid_unicode_utf8_first)] }
def ValidateKnownSaid : Prop := validateKnownRow.holds Tryz.pinned (OpenSpec.ofChange validateKnownSpec)

/-- ITS FALSE NEIGHBOUR: 'it returns false'. Refute it at one input. -/
def validateKnownWrong : ChangeSpec := { name := "validateKnown", fn := fun _ => fun
  | [] => { results := [.lit (.bool false)], args := [] }
  | _ => none }
def ValidateKnownWrongFalsely : Prop := validateKnownRow.holds Tryz.pinned (OpenSpec.ofChange validateKnownWrong)

/-- 'waypostlaw31.ValidateParts': WHATEVER THE INPUT: true; the input reads as it did. -/
def validatePartsSpec : ChangeSpec := { name := "validateParts", fn := fun _ => fun
  | [d1, d2, d3] => { results := [.lit (.bool true)], args := [d1, d2, d3] }
  | _ => none }
def validatePartsRow : OpenClaim := { program := "ytpggmngncbpboaagreatdoor", sum := "a3dffd052cec9468cf76079be2afbf8c91a3c4b9ca24308e5d20395ae21a6c38", func := "waypost/waypostlaw31.ValidateParts", spec := "validateParts", inPlace := ["internal/bytealg.IndexByteString", "internal/bytealg.IndexString", "internal/bytealg.CountString", "internal/abi.NoEscape"], unfollowed := true, recurses := true, named := ["waypost/validate.nowhere", "internal/bytealg.MaxLen", "waypost/template.names", "unicode/utf8.first", "unicode/utf8.acceptRanges", "strconv.ErrSyntax", "strconv.ErrRange", "internal/strconv.uint64pow10", "math/bits.deBruijn32tab", "math/bits.deBruijn64tab", "waypost/flag.codes"], apart := false, laid := [("math/bits.deBruijn32tab", laid_math_bits_deBruijn32tab), ("math/bits.deBruijn64tab", laid_math_bits_deBruijn64tab), ("internal/strconv.uint64pow10", laid_internal_strconv_uint64pow10), ("unicode/utf8.acceptRanges", laid_unicode_utf8_acceptRanges), ("strconv.ErrRange", laid_strconv_ErrRange), ("strconv.ErrSyntax", laid_strconv_ErrSyntax), ("waypost/flag.codes", laid_waypost_flag_codes), ("waypost/template.names", laid_waypost_template_names), ("waypost/validate.nowhere", laid_waypost_validate_nowhere), ("unicode/utf8.first", laid_unicode_utf8_first)] }
def ValidatePartsSaid : Prop := validatePartsRow.holds Tryz.pinned (OpenSpec.ofChange validatePartsSpec)

/-- ITS FALSE NEIGHBOUR: 'it returns false'. Refute it at one input. -/
def validatePartsWrong : ChangeSpec := { name := "validateParts", fn := fun _ => fun
  | [d1, d2, d3] => { results := [.lit (.bool false)], args := [d1, d2, d3] }
  | _ => none }
def ValidatePartsWrongFalsely : Prop := validatePartsRow.holds Tryz.pinned (OpenSpec.ofChange validatePartsWrong)

/-- 'waypostlaw31.ValidateFirst': WHATEVER THE INPUT: true; the input reads as it did. -/
def validateFirstSpec : ChangeSpec := { name := "validateFirst", fn := fun _ => fun
  | [d1, d2, d3] => { results := [.lit (.bool true)], args := [d1, d2, d3] }
  | _ => none }
def validateFirstRow : OpenClaim := { program := "ytpggmngncbpboaagreatdoor", sum := "a3dffd052cec9468cf76079be2afbf8c91a3c4b9ca24308e5d20395ae21a6c38", func := "waypost/waypostlaw31.ValidateFirst", spec := "validateFirst", inPlace := ["internal/bytealg.IndexByteString", "internal/bytealg.IndexString", "internal/bytealg.CountString", "internal/abi.NoEscape"], unfollowed := true, recurses := true, named := ["waypost/validate.nowhere", "internal/bytealg.MaxLen", "waypost/template.names", "unicode/utf8.first", "unicode/utf8.acceptRanges", "strconv.ErrSyntax", "strconv.ErrRange", "internal/strconv.uint64pow10", "math/bits.deBruijn32tab", "math/bits.deBruijn64tab", "waypost/flag.codes"], apart := false, laid := [("math/bits.deBruijn32tab", laid_math_bits_deBruijn32tab), ("math/bits.deBruijn64tab", laid_math_bits_deBruijn64tab), ("internal/strconv.uint64pow10", laid_internal_strconv_uint64pow10), ("unicode/utf8.acceptRanges", laid_unicode_utf8_acceptRanges), ("strconv.ErrRange", laid_strconv_ErrRange), ("strconv.ErrSyntax", laid_strconv_ErrSyntax), ("waypost/flag.codes", laid_waypost_flag_codes), ("waypost/template.names", laid_waypost_template_names), ("waypost/validate.nowhere", laid_waypost_validate_nowhere), ("unicode/utf8.first", laid_unicode_utf8_first)] }
def ValidateFirstSaid : Prop := validateFirstRow.holds Tryz.pinned (OpenSpec.ofChange validateFirstSpec)

/-- ITS FALSE NEIGHBOUR: 'it returns false'. Refute it at one input. -/
def validateFirstWrong : ChangeSpec := { name := "validateFirst", fn := fun _ => fun
  | [d1, d2, d3] => { results := [.lit (.bool false)], args := [d1, d2, d3] }
  | _ => none }
def ValidateFirstWrongFalsely : Prop := validateFirstRow.holds Tryz.pinned (OpenSpec.ofChange validateFirstWrong)

/-- 'waypostlaw31.ValidateNumbers': WHATEVER THE INPUT: true; the input reads as it did. -/
def validateNumbersSpec : ChangeSpec := { name := "validateNumbers", fn := fun _ => fun
  | [d1, d2] => { results := [.lit (.bool true)], args := [d1, d2] }
  | _ => none }
def validateNumbersRow : OpenClaim := { program := "ytpggmngncbpboaagreatdoor", sum := "a3dffd052cec9468cf76079be2afbf8c91a3c4b9ca24308e5d20395ae21a6c38", func := "waypost/waypostlaw31.ValidateNumbers", spec := "validateNumbers", inPlace := ["internal/bytealg.IndexByteString", "internal/bytealg.IndexString", "internal/bytealg.CountString", "internal/abi.NoEscape"], unfollowed := true, recurses := true, named := ["waypost/validate.nowhere", "internal/bytealg.MaxLen", "waypost/template.names", "unicode/utf8.first", "unicode/utf8.acceptRanges", "strconv.ErrSyntax", "strconv.ErrRange", "internal/strconv.uint64pow10", "math/bits.deBruijn32tab", "math/bits.deBruijn64tab", "waypost/flag.codes"], apart := false, laid := [("math/bits.deBruijn32tab", laid_math_bits_deBruijn32tab), ("math/bits.deBruijn64tab", laid_math_bits_deBruijn64tab), ("internal/strconv.uint64pow10", laid_internal_strconv_uint64pow10), ("unicode/utf8.acceptRanges", laid_unicode_utf8_acceptRanges), ("strconv.ErrRange", laid_strconv_ErrRange), ("strconv.ErrSyntax", laid_strconv_ErrSyntax), ("waypost/flag.codes", laid_waypost_flag_codes), ("waypost/template.names", laid_waypost_template_names), ("waypost/validate.nowhere", laid_waypost_validate_nowhere), ("unicode/utf8.first", laid_unicode_utf8_first)] }
def ValidateNumbersSaid : Prop := validateNumbersRow.holds Tryz.pinned (OpenSpec.ofChange validateNumbersSpec)

/-- ITS FALSE NEIGHBOUR: 'it returns false'. Refute it at one input. -/
def validateNumbersWrong : ChangeSpec := { name := "validateNumbers", fn := fun _ => fun
  | [d1, d2] => { results := [.lit (.bool false)], args := [d1, d2] }
  | _ => none }
def ValidateNumbersWrongFalsely : Prop := validateNumbersRow.holds Tryz.pinned (OpenSpec.ofChange validateNumbersWrong)

/-- 'waypostlaw31.ValidateConfigs': WHATEVER THE INPUT: true; the input reads as it did. -/
def validateConfigsSpec : ChangeSpec := { name := "validateConfigs", fn := fun _ => fun
  | [d1, d2, d3, d4] => { results := [.lit (.bool true)], args := [d1, d2, d3, d4] }
  | _ => none }
def validateConfigsRow : OpenClaim := { program := "ytpggmngncbpboaagreatdoor", sum := "a3dffd052cec9468cf76079be2afbf8c91a3c4b9ca24308e5d20395ae21a6c38", func := "waypost/waypostlaw31.ValidateConfigs", spec := "validateConfigs", inPlace := ["internal/bytealg.IndexByteString", "internal/bytealg.IndexString", "internal/bytealg.CountString", "internal/abi.NoEscape"], unfollowed := true, recurses := true, named := ["waypost/template.names", "internal/bytealg.MaxLen", "unicode/utf8.first", "unicode/utf8.acceptRanges", "strconv.ErrSyntax", "strconv.ErrRange", "internal/strconv.uint64pow10", "math/bits.deBruijn32tab", "math/bits.deBruijn64tab", "waypost/flag.codes", "waypost/validate.nowhere"], apart := false, laid := [("math/bits.deBruijn32tab", laid_math_bits_deBruijn32tab), ("math/bits.deBruijn64tab", laid_math_bits_deBruijn64tab), ("internal/strconv.uint64pow10", laid_internal_strconv_uint64pow10), ("unicode/utf8.acceptRanges", laid_unicode_utf8_acceptRanges), ("strconv.ErrRange", laid_strconv_ErrRange), ("strconv.ErrSyntax", laid_strconv_ErrSyntax), ("waypost/flag.codes", laid_waypost_flag_codes), ("waypost/template.names", laid_waypost_template_names), ("waypost/validate.nowhere", laid_waypost_validate_nowhere), ("unicode/utf8.first", laid_unicode_utf8_first)] }
def ValidateConfigsSaid : Prop := validateConfigsRow.holds Tryz.pinned (OpenSpec.ofChange validateConfigsSpec)

/-- ITS FALSE NEIGHBOUR: 'it returns false'. Refute it at one input. -/
def validateConfigsWrong : ChangeSpec := { name := "validateConfigs", fn := fun _ => fun
  | [d1, d2, d3, d4] => { results := [.lit (.bool false)], args := [d1, d2, d3, d4] }
  | _ => none }
def ValidateConfigsWrongFalsely : Prop := validateConfigsRow.holds Tryz.pinned (OpenSpec.ofChange validateConfigsWrong)

/-- 'waypostlaw31.ValidateSafe': WHATEVER THE INPUT: true; the input reads as it did. -/
def validateSafeSpec : ChangeSpec := { name := "validateSafe", fn := fun _ => fun
  | [d1, d2, d3] => { results := [.lit (.bool true)], args := [d1, d2, d3] }
  | _ => none }
def validateSafeRow : OpenClaim := { program := "ytpggmngncbpboaagreatdoor", sum := "a3dffd052cec9468cf76079be2afbf8c91a3c4b9ca24308e5d20395ae21a6c38", func := "waypost/waypostlaw31.ValidateSafe", spec := "validateSafe", inPlace := ["internal/bytealg.IndexByteString", "internal/bytealg.IndexString", "internal/bytealg.CountString", "internal/abi.NoEscape", "internal/bytealg.MakeNoZero"], unfollowed := true, recurses := true, named := ["waypost/template.names", "internal/bytealg.MaxLen", "unicode/utf8.first", "unicode/utf8.acceptRanges", "strconv.ErrSyntax", "strconv.ErrRange", "internal/strconv.uint64pow10", "math/bits.deBruijn32tab", "math/bits.deBruijn64tab", "waypost/flag.codes"], apart := false, laid := [("math/bits.deBruijn32tab", laid_math_bits_deBruijn32tab), ("math/bits.deBruijn64tab", laid_math_bits_deBruijn64tab), ("internal/strconv.uint64pow10", laid_internal_strconv_uint64pow10), ("unicode/utf8.acceptRanges", laid_unicode_utf8_acceptRanges), ("strconv.ErrRange", laid_strconv_ErrRange), ("strconv.ErrSyntax", laid_strconv_ErrSyntax), ("waypost/flag.codes", laid_waypost_flag_codes), ("waypost/template.names", laid_waypost_template_names), ("unicode/utf8.first", laid_unicode_utf8_first)] }
def ValidateSafeSaid : Prop := validateSafeRow.holds Tryz.pinned (OpenSpec.ofChange validateSafeSpec)

/-- ITS FALSE NEIGHBOUR: 'it returns false'. Refute it at one input. -/
def validateSafeWrong : ChangeSpec := { name := "validateSafe", fn := fun _ => fun
  | [d1, d2, d3] => { results := [.lit (.bool false)], args := [d1, d2, d3] }
  | _ => none }
def ValidateSafeWrongFalsely : Prop := validateSafeRow.holds Tryz.pinned (OpenSpec.ofChange validateSafeWrong)

/- THE SECOND FORM. 'bulk': how many values and letters a reading holds, each counted each time it is reached (what is shared counts as often as it is met; a slice's spare places count too). A statement '..UptoSaid' is the law's where the arguments, and the package variables that the reading takes, are together of bulk at most 1048576: NARROWER than '..Said'. Prove '..Said' where nothing that the law and all that it calls make is longer than what came in: it says more and counts as full. Else prove '..UptoSaid'. A law counts once. -/
mutual
def uptoBulk {H : Type} : DataW H → Nat
  | .lit (.string bytes) => bytes.length + 1
  | .lit _ => 1
  | .nil => 1
  | .ptr d => uptoBulk d + 1
  | .slice elems spare => uptoBulkAll elems + uptoBulkAll spare + 1
  | .agg parts => uptoBulkAll parts + 1
  | .iface _ d => uptoBulk d + 1
  | .map entries => uptoBulkEntries entries + 1
  | .held _ => 1
def uptoBulkAll {H : Type} : List (DataW H) → Nat
  | [] => 0
  | d :: r => uptoBulk d + uptoBulkAll r
def uptoBulkEntries {H : Type} : List (Lit × DataW H) → Nat
  | [] => 0
  | x :: r => uptoBulkEntry x + uptoBulkEntries r
def uptoBulkEntry {H : Type} : Lit × DataW H → Nat
  | (.string bytes, d) => bytes.length + uptoBulk d + 1
  | (_, d) => uptoBulk d + 1
 end
def uptoSmall : (H : Type) → List (DataW H) → Bool := fun _ ds => decide (uptoBulkAll ds ≤ 1048576)
def OpenSpec.upto (s : _root_.Go.ChangeSpec) : _root_.Go.OpenSpec := { _root_.Go.OpenSpec.ofChange s with cond := some uptoSmall }

/-- 'waypostlaw31.ValidateRules', WHERE WHAT IT READS IS OF BULK AT MOST 1048576: true; the input reads as it did. -/
def validateRulesUptoRow : OpenClaim := { program := "ytpggmngncbpboaagreatdoor", sum := "a3dffd052cec9468cf76079be2afbf8c91a3c4b9ca24308e5d20395ae21a6c38", func := "waypost/waypostlaw31.ValidateRules", spec := "validateRules", inPlace := ["internal/bytealg.IndexByteString", "internal/bytealg.IndexString", "internal/bytealg.CountString", "internal/abi.NoEscape"], unfollowed := true, recurses := true, named := ["waypost/template.names", "internal/bytealg.MaxLen", "unicode/utf8.first", "unicode/utf8.acceptRanges", "strconv.ErrSyntax", "strconv.ErrRange", "internal/strconv.uint64pow10", "math/bits.deBruijn32tab", "math/bits.deBruijn64tab", "waypost/flag.codes"], apart := false, laid := [("math/bits.deBruijn32tab", laid_math_bits_deBruijn32tab), ("math/bits.deBruijn64tab", laid_math_bits_deBruijn64tab), ("internal/strconv.uint64pow10", laid_internal_strconv_uint64pow10), ("unicode/utf8.acceptRanges", laid_unicode_utf8_acceptRanges), ("strconv.ErrRange", laid_strconv_ErrRange), ("strconv.ErrSyntax", laid_strconv_ErrSyntax), ("waypost/flag.codes", laid_waypost_flag_codes), ("waypost/template.names", laid_waypost_template_names), ("unicode/utf8.first", laid_unicode_utf8_first)], narrowed := true }
def ValidateRulesUptoSaid : Prop := validateRulesUptoRow.holds Tryz.pinned (OpenSpec.upto validateRulesSpec)

/-- 'waypostlaw31.ValidateKnown', WHERE WHAT IT READS IS OF BULK AT MOST 1048576: true; the input reads as it did. -/
def validateKnownUptoRow : OpenClaim := { program := "ytpggmngncbpboaagreatdoor", sum := "a3dffd052cec9468cf76079be2afbf8c91a3c4b9ca24308e5d20395ae21a6c38", func := "waypost/waypostlaw31.ValidateKnown", spec := "validateKnown", inPlace := ["internal/bytealg.IndexByteString", "internal/bytealg.IndexString", "internal/bytealg.CountString", "internal/abi.NoEscape"], unfollowed := true, recurses := true, named := ["waypost/template.names", "internal/bytealg.MaxLen", "unicode/utf8.first", "unicode/utf8.acceptRanges", "strconv.ErrSyntax", "strconv.ErrRange", "internal/strconv.uint64pow10", "math/bits.deBruijn32tab", "math/bits.deBruijn64tab", "waypost/flag.codes", "waypost/validate.nowhere"], apart := false, laid := [("math/bits.deBruijn32tab", laid_math_bits_deBruijn32tab), ("math/bits.deBruijn64tab", laid_math_bits_deBruijn64tab), ("internal/strconv.uint64pow10", laid_internal_strconv_uint64pow10), ("unicode/utf8.acceptRanges", laid_unicode_utf8_acceptRanges), ("strconv.ErrRange", laid_strconv_ErrRange), ("strconv.ErrSyntax", laid_strconv_ErrSyntax), ("waypost/flag.codes", laid_waypost_flag_codes), ("waypost/template.names", laid_waypost_template_names), ("waypost/validate.nowhere", laid_waypost_validate_nowhere), ("unicode/utf8.first", laid_unicode_utf8_first)], narrowed := true }
def ValidateKnownUptoSaid : Prop := validateKnownUptoRow.holds Tryz.pinned (OpenSpec.upto validateKnownSpec)

/-- 'waypostlaw31.ValidateParts', WHERE WHAT IT READS IS OF BULK AT MOST 1048576: true; the input reads as it did. -/
def validatePartsUptoRow : OpenClaim := { program := "ytpggmngncbpboaagreatdoor", sum := "a3dffd052cec9468cf76079be2afbf8c91a3c4b9ca24308e5d20395ae21a6c38", func := "waypost/waypostlaw31.ValidateParts", spec := "validateParts", inPlace := ["internal/bytealg.IndexByteString", "internal/bytealg.IndexString", "internal/bytealg.CountString", "internal/abi.NoEscape"], unfollowed := true, recurses := true, named := ["waypost/validate.nowhere", "internal/bytealg.MaxLen", "waypost/template.names", "unicode/utf8.first", "unicode/utf8.acceptRanges", "strconv.ErrSyntax", "strconv.ErrRange", "internal/strconv.uint64pow10", "math/bits.deBruijn32tab", "math/bits.deBruijn64tab", "waypost/flag.codes"], apart := false, laid := [("math/bits.deBruijn32tab", laid_math_bits_deBruijn32tab), ("math/bits.deBruijn64tab", laid_math_bits_deBruijn64tab), ("internal/strconv.uint64pow10", laid_internal_strconv_uint64pow10), ("unicode/utf8.acceptRanges", laid_unicode_utf8_acceptRanges), ("strconv.ErrRange", laid_strconv_ErrRange), ("strconv.ErrSyntax", laid_strconv_ErrSyntax), ("waypost/flag.codes", laid_waypost_flag_codes), ("waypost/template.names", laid_waypost_template_names), ("waypost/validate.nowhere", laid_waypost_validate_nowhere), ("unicode/utf8.first", laid_unicode_utf8_first)], narrowed := true }
def ValidatePartsUptoSaid : Prop := validatePartsUptoRow.holds Tryz.pinned (OpenSpec.upto validatePartsSpec)

/-- 'waypostlaw31.ValidateFirst', WHERE WHAT IT READS IS OF BULK AT MOST 1048576: true; the input reads as it did. -/
def validateFirstUptoRow : OpenClaim := { program := "ytpggmngncbpboaagreatdoor", sum := "a3dffd052cec9468cf76079be2afbf8c91a3c4b9ca24308e5d20395ae21a6c38", func := "waypost/waypostlaw31.ValidateFirst", spec := "validateFirst", inPlace := ["internal/bytealg.IndexByteString", "internal/bytealg.IndexString", "internal/bytealg.CountString", "internal/abi.NoEscape"], unfollowed := true, recurses := true, named := ["waypost/validate.nowhere", "internal/bytealg.MaxLen", "waypost/template.names", "unicode/utf8.first", "unicode/utf8.acceptRanges", "strconv.ErrSyntax", "strconv.ErrRange", "internal/strconv.uint64pow10", "math/bits.deBruijn32tab", "math/bits.deBruijn64tab", "waypost/flag.codes"], apart := false, laid := [("math/bits.deBruijn32tab", laid_math_bits_deBruijn32tab), ("math/bits.deBruijn64tab", laid_math_bits_deBruijn64tab), ("internal/strconv.uint64pow10", laid_internal_strconv_uint64pow10), ("unicode/utf8.acceptRanges", laid_unicode_utf8_acceptRanges), ("strconv.ErrRange", laid_strconv_ErrRange), ("strconv.ErrSyntax", laid_strconv_ErrSyntax), ("waypost/flag.codes", laid_waypost_flag_codes), ("waypost/template.names", laid_waypost_template_names), ("waypost/validate.nowhere", laid_waypost_validate_nowhere), ("unicode/utf8.first", laid_unicode_utf8_first)], narrowed := true }
def ValidateFirstUptoSaid : Prop := validateFirstUptoRow.holds Tryz.pinned (OpenSpec.upto validateFirstSpec)

/-- 'waypostlaw31.ValidateNumbers', WHERE WHAT IT READS IS OF BULK AT MOST 1048576: true; the input reads as it did. -/
def validateNumbersUptoRow : OpenClaim := { program := "ytpggmngncbpboaagreatdoor", sum := "a3dffd052cec9468cf76079be2afbf8c91a3c4b9ca24308e5d20395ae21a6c38", func := "waypost/waypostlaw31.ValidateNumbers", spec := "validateNumbers", inPlace := ["internal/bytealg.IndexByteString", "internal/bytealg.IndexString", "internal/bytealg.CountString", "internal/abi.NoEscape"], unfollowed := true, recurses := true, named := ["waypost/validate.nowhere", "internal/bytealg.MaxLen", "waypost/template.names", "unicode/utf8.first", "unicode/utf8.acceptRanges", "strconv.ErrSyntax", "strconv.ErrRange", "internal/strconv.uint64pow10", "math/bits.deBruijn32tab", "math/bits.deBruijn64tab", "waypost/flag.codes"], apart := false, laid := [("math/bits.deBruijn32tab", laid_math_bits_deBruijn32tab), ("math/bits.deBruijn64tab", laid_math_bits_deBruijn64tab), ("internal/strconv.uint64pow10", laid_internal_strconv_uint64pow10), ("unicode/utf8.acceptRanges", laid_unicode_utf8_acceptRanges), ("strconv.ErrRange", laid_strconv_ErrRange), ("strconv.ErrSyntax", laid_strconv_ErrSyntax), ("waypost/flag.codes", laid_waypost_flag_codes), ("waypost/template.names", laid_waypost_template_names), ("waypost/validate.nowhere", laid_waypost_validate_nowhere), ("unicode/utf8.first", laid_unicode_utf8_first)], narrowed := true }
def ValidateNumbersUptoSaid : Prop := validateNumbersUptoRow.holds Tryz.pinned (OpenSpec.upto validateNumbersSpec)

/-- 'waypostlaw31.ValidateConfigs', WHERE WHAT IT READS IS OF BULK AT MOST 1048576: true; the input reads as it did. -/
def validateConfigsUptoRow : OpenClaim := { program := "ytpggmngncbpboaagreatdoor", sum := "a3dffd052cec9468cf76079be2afbf8c91a3c4b9ca24308e5d20395ae21a6c38", func := "waypost/waypostlaw31.ValidateConfigs", spec := "validateConfigs", inPlace := ["internal/bytealg.IndexByteString", "internal/bytealg.IndexString", "internal/bytealg.CountString", "internal/abi.NoEscape"], unfollowed := true, recurses := true, named := ["waypost/template.names", "internal/bytealg.MaxLen", "unicode/utf8.first", "unicode/utf8.acceptRanges", "strconv.ErrSyntax", "strconv.ErrRange", "internal/strconv.uint64pow10", "math/bits.deBruijn32tab", "math/bits.deBruijn64tab", "waypost/flag.codes", "waypost/validate.nowhere"], apart := false, laid := [("math/bits.deBruijn32tab", laid_math_bits_deBruijn32tab), ("math/bits.deBruijn64tab", laid_math_bits_deBruijn64tab), ("internal/strconv.uint64pow10", laid_internal_strconv_uint64pow10), ("unicode/utf8.acceptRanges", laid_unicode_utf8_acceptRanges), ("strconv.ErrRange", laid_strconv_ErrRange), ("strconv.ErrSyntax", laid_strconv_ErrSyntax), ("waypost/flag.codes", laid_waypost_flag_codes), ("waypost/template.names", laid_waypost_template_names), ("waypost/validate.nowhere", laid_waypost_validate_nowhere), ("unicode/utf8.first", laid_unicode_utf8_first)], narrowed := true }
def ValidateConfigsUptoSaid : Prop := validateConfigsUptoRow.holds Tryz.pinned (OpenSpec.upto validateConfigsSpec)

/-- 'waypostlaw31.ValidateSafe', WHERE WHAT IT READS IS OF BULK AT MOST 1048576: true; the input reads as it did. -/
def validateSafeUptoRow : OpenClaim := { program := "ytpggmngncbpboaagreatdoor", sum := "a3dffd052cec9468cf76079be2afbf8c91a3c4b9ca24308e5d20395ae21a6c38", func := "waypost/waypostlaw31.ValidateSafe", spec := "validateSafe", inPlace := ["internal/bytealg.IndexByteString", "internal/bytealg.IndexString", "internal/bytealg.CountString", "internal/abi.NoEscape", "internal/bytealg.MakeNoZero"], unfollowed := true, recurses := true, named := ["waypost/template.names", "internal/bytealg.MaxLen", "unicode/utf8.first", "unicode/utf8.acceptRanges", "strconv.ErrSyntax", "strconv.ErrRange", "internal/strconv.uint64pow10", "math/bits.deBruijn32tab", "math/bits.deBruijn64tab", "waypost/flag.codes"], apart := false, laid := [("math/bits.deBruijn32tab", laid_math_bits_deBruijn32tab), ("math/bits.deBruijn64tab", laid_math_bits_deBruijn64tab), ("internal/strconv.uint64pow10", laid_internal_strconv_uint64pow10), ("unicode/utf8.acceptRanges", laid_unicode_utf8_acceptRanges), ("strconv.ErrRange", laid_strconv_ErrRange), ("strconv.ErrSyntax", laid_strconv_ErrSyntax), ("waypost/flag.codes", laid_waypost_flag_codes), ("waypost/template.names", laid_waypost_template_names), ("unicode/utf8.first", laid_unicode_utf8_first)], narrowed := true }
def ValidateSafeUptoSaid : Prop := validateSafeUptoRow.holds Tryz.pinned (OpenSpec.upto validateSafeSpec)

end Rows
end Go.Proofs.YtpggmngncbpboaaGreatDoor
