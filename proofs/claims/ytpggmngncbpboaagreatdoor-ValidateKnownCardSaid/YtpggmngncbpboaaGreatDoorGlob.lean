/- What the listed package-level variables hold, as the engine's first heap; a world in which they read so holds it. (Printed by a small program.) -/
import Derived.Test.YtpggmngncbpboaaGreatDoorXt
import Derived.Test.YtpggmngncbpboaaGreatDoorExt
import Derived.Test.YtpggmngncbpboaaGreatDoorFTab
import Derived.Test.YtpggmngncbpboaaGreatDoorRows
open Go.Proofs Go.RowKit
namespace Go.AE
set_option maxRecDepth 100000

def plainAV : AV → Bool
  | .nt _ _ => true
  | .st _ => true
  | _ => false
theorem scs_plain (n : Nat) : ∀ l : List AV, l.all plainAV = true → AV.scs n l := by
  intro l
  induction l with
  | nil => intro _; trivial
  | cons v l ih =>
    intro h
    simp only [List.all_cons, Bool.and_eq_true] at h
    refine ⟨?_, ih h.2⟩
    cases v <;> simp_all [plainAV, AV.sc]

def gl0 : List AV := [.nt .i64 (.negSucc 0), .nt .i64 (.negSucc 0), .nt .i64 (.negSucc 0), .nt .i64 (.negSucc 0)]
def gl1 : List AV := [.st [], .st [80, 65, 84, 72], .st [81, 85, 69, 82, 89], .st [72, 79, 83, 84], .st [77, 69, 84, 72, 79, 68]]
def gl2 : List AV := [.nt .i64 (.ofNat 301), .nt .i64 (.ofNat 302), .nt .i64 (.ofNat 303), .nt .i64 (.ofNat 307), .nt .i64 (.ofNat 308)]
def gl6 : List AV := [.nt .u64 (.ofNat 1), .nt .u64 (.ofNat 10), .nt .u64 (.ofNat 100), .nt .u64 (.ofNat 1000), .nt .u64 (.ofNat 10000), .nt .u64 (.ofNat 100000), .nt .u64 (.ofNat 1000000), .nt .u64 (.ofNat 10000000), .nt .u64 (.ofNat 100000000), .nt .u64 (.ofNat 1000000000), .nt .u64 (.ofNat 10000000000), .nt .u64 (.ofNat 100000000000), .nt .u64 (.ofNat 1000000000000), .nt .u64 (.ofNat 10000000000000), .nt .u64 (.ofNat 100000000000000), .nt .u64 (.ofNat 1000000000000000), .nt .u64 (.ofNat 10000000000000000), .nt .u64 (.ofNat 100000000000000000), .nt .u64 (.ofNat 1000000000000000000), .nt .u64 (.ofNat 10000000000000000000)]
def gl7 : List AV := [.nt .u8 (.ofNat 240), .nt .u8 (.ofNat 240), .nt .u8 (.ofNat 240), .nt .u8 (.ofNat 240), .nt .u8 (.ofNat 240), .nt .u8 (.ofNat 240), .nt .u8 (.ofNat 240), .nt .u8 (.ofNat 240), .nt .u8 (.ofNat 240), .nt .u8 (.ofNat 240), .nt .u8 (.ofNat 240), .nt .u8 (.ofNat 240), .nt .u8 (.ofNat 240), .nt .u8 (.ofNat 240), .nt .u8 (.ofNat 240), .nt .u8 (.ofNat 240), .nt .u8 (.ofNat 240), .nt .u8 (.ofNat 240), .nt .u8 (.ofNat 240), .nt .u8 (.ofNat 240), .nt .u8 (.ofNat 240), .nt .u8 (.ofNat 240), .nt .u8 (.ofNat 240), .nt .u8 (.ofNat 240), .nt .u8 (.ofNat 240), .nt .u8 (.ofNat 240), .nt .u8 (.ofNat 240), .nt .u8 (.ofNat 240), .nt .u8 (.ofNat 240), .nt .u8 (.ofNat 240), .nt .u8 (.ofNat 240), .nt .u8 (.ofNat 240), .nt .u8 (.ofNat 240), .nt .u8 (.ofNat 240), .nt .u8 (.ofNat 240), .nt .u8 (.ofNat 240), .nt .u8 (.ofNat 240), .nt .u8 (.ofNat 240), .nt .u8 (.ofNat 240), .nt .u8 (.ofNat 240), .nt .u8 (.ofNat 240), .nt .u8 (.ofNat 240), .nt .u8 (.ofNat 240), .nt .u8 (.ofNat 240), .nt .u8 (.ofNat 240), .nt .u8 (.ofNat 240), .nt .u8 (.ofNat 240), .nt .u8 (.ofNat 240), .nt .u8 (.ofNat 240), .nt .u8 (.ofNat 240), .nt .u8 (.ofNat 240), .nt .u8 (.ofNat 240), .nt .u8 (.ofNat 240), .nt .u8 (.ofNat 240), .nt .u8 (.ofNat 240), .nt .u8 (.ofNat 240), .nt .u8 (.ofNat 240), .nt .u8 (.ofNat 240), .nt .u8 (.ofNat 240), .nt .u8 (.ofNat 240), .nt .u8 (.ofNat 240), .nt .u8 (.ofNat 240), .nt .u8 (.ofNat 240), .nt .u8 (.ofNat 240), .nt .u8 (.ofNat 240), .nt .u8 (.ofNat 240), .nt .u8 (.ofNat 240), .nt .u8 (.ofNat 240), .nt .u8 (.ofNat 240), .nt .u8 (.ofNat 240), .nt .u8 (.ofNat 240), .nt .u8 (.ofNat 240), .nt .u8 (.ofNat 240), .nt .u8 (.ofNat 240), .nt .u8 (.ofNat 240), .nt .u8 (.ofNat 240), .nt .u8 (.ofNat 240), .nt .u8 (.ofNat 240), .nt .u8 (.ofNat 240), .nt .u8 (.ofNat 240), .nt .u8 (.ofNat 240), .nt .u8 (.ofNat 240), .nt .u8 (.ofNat 240), .nt .u8 (.ofNat 240), .nt .u8 (.ofNat 240), .nt .u8 (.ofNat 240), .nt .u8 (.ofNat 240), .nt .u8 (.ofNat 240), .nt .u8 (.ofNat 240), .nt .u8 (.ofNat 240), .nt .u8 (.ofNat 240), .nt .u8 (.ofNat 240), .nt .u8 (.ofNat 240), .nt .u8 (.ofNat 240), .nt .u8 (.ofNat 240), .nt .u8 (.ofNat 240), .nt .u8 (.ofNat 240), .nt .u8 (.ofNat 240), .nt .u8 (.ofNat 240), .nt .u8 (.ofNat 240), .nt .u8 (.ofNat 240), .nt .u8 (.ofNat 240), .nt .u8 (.ofNat 240), .nt .u8 (.ofNat 240), .nt .u8 (.ofNat 240), .nt .u8 (.ofNat 240), .nt .u8 (.ofNat 240), .nt .u8 (.ofNat 240), .nt .u8 (.ofNat 240), .nt .u8 (.ofNat 240), .nt .u8 (.ofNat 240), .nt .u8 (.ofNat 240), .nt .u8 (.ofNat 240), .nt .u8 (.ofNat 240), .nt .u8 (.ofNat 240), .nt .u8 (.ofNat 240), .nt .u8 (.ofNat 240), .nt .u8 (.ofNat 240), .nt .u8 (.ofNat 240), .nt .u8 (.ofNat 240), .nt .u8 (.ofNat 240), .nt .u8 (.ofNat 240), .nt .u8 (.ofNat 240), .nt .u8 (.ofNat 240), .nt .u8 (.ofNat 240), .nt .u8 (.ofNat 240), .nt .u8 (.ofNat 240), .nt .u8 (.ofNat 240), .nt .u8 (.ofNat 241), .nt .u8 (.ofNat 241), .nt .u8 (.ofNat 241), .nt .u8 (.ofNat 241), .nt .u8 (.ofNat 241), .nt .u8 (.ofNat 241), .nt .u8 (.ofNat 241), .nt .u8 (.ofNat 241), .nt .u8 (.ofNat 241), .nt .u8 (.ofNat 241), .nt .u8 (.ofNat 241), .nt .u8 (.ofNat 241), .nt .u8 (.ofNat 241), .nt .u8 (.ofNat 241), .nt .u8 (.ofNat 241), .nt .u8 (.ofNat 241), .nt .u8 (.ofNat 241), .nt .u8 (.ofNat 241), .nt .u8 (.ofNat 241), .nt .u8 (.ofNat 241), .nt .u8 (.ofNat 241), .nt .u8 (.ofNat 241), .nt .u8 (.ofNat 241), .nt .u8 (.ofNat 241), .nt .u8 (.ofNat 241), .nt .u8 (.ofNat 241), .nt .u8 (.ofNat 241), .nt .u8 (.ofNat 241), .nt .u8 (.ofNat 241), .nt .u8 (.ofNat 241), .nt .u8 (.ofNat 241), .nt .u8 (.ofNat 241), .nt .u8 (.ofNat 241), .nt .u8 (.ofNat 241), .nt .u8 (.ofNat 241), .nt .u8 (.ofNat 241), .nt .u8 (.ofNat 241), .nt .u8 (.ofNat 241), .nt .u8 (.ofNat 241), .nt .u8 (.ofNat 241), .nt .u8 (.ofNat 241), .nt .u8 (.ofNat 241), .nt .u8 (.ofNat 241), .nt .u8 (.ofNat 241), .nt .u8 (.ofNat 241), .nt .u8 (.ofNat 241), .nt .u8 (.ofNat 241), .nt .u8 (.ofNat 241), .nt .u8 (.ofNat 241), .nt .u8 (.ofNat 241), .nt .u8 (.ofNat 241), .nt .u8 (.ofNat 241), .nt .u8 (.ofNat 241), .nt .u8 (.ofNat 241), .nt .u8 (.ofNat 241), .nt .u8 (.ofNat 241), .nt .u8 (.ofNat 241), .nt .u8 (.ofNat 241), .nt .u8 (.ofNat 241), .nt .u8 (.ofNat 241), .nt .u8 (.ofNat 241), .nt .u8 (.ofNat 241), .nt .u8 (.ofNat 241), .nt .u8 (.ofNat 241), .nt .u8 (.ofNat 241), .nt .u8 (.ofNat 241), .nt .u8 (.ofNat 2), .nt .u8 (.ofNat 2), .nt .u8 (.ofNat 2), .nt .u8 (.ofNat 2), .nt .u8 (.ofNat 2), .nt .u8 (.ofNat 2), .nt .u8 (.ofNat 2), .nt .u8 (.ofNat 2), .nt .u8 (.ofNat 2), .nt .u8 (.ofNat 2), .nt .u8 (.ofNat 2), .nt .u8 (.ofNat 2), .nt .u8 (.ofNat 2), .nt .u8 (.ofNat 2), .nt .u8 (.ofNat 2), .nt .u8 (.ofNat 2), .nt .u8 (.ofNat 2), .nt .u8 (.ofNat 2), .nt .u8 (.ofNat 2), .nt .u8 (.ofNat 2), .nt .u8 (.ofNat 2), .nt .u8 (.ofNat 2), .nt .u8 (.ofNat 2), .nt .u8 (.ofNat 2), .nt .u8 (.ofNat 2), .nt .u8 (.ofNat 2), .nt .u8 (.ofNat 2), .nt .u8 (.ofNat 2), .nt .u8 (.ofNat 2), .nt .u8 (.ofNat 2), .nt .u8 (.ofNat 19), .nt .u8 (.ofNat 3), .nt .u8 (.ofNat 3), .nt .u8 (.ofNat 3), .nt .u8 (.ofNat 3), .nt .u8 (.ofNat 3), .nt .u8 (.ofNat 3), .nt .u8 (.ofNat 3), .nt .u8 (.ofNat 3), .nt .u8 (.ofNat 3), .nt .u8 (.ofNat 3), .nt .u8 (.ofNat 3), .nt .u8 (.ofNat 3), .nt .u8 (.ofNat 35), .nt .u8 (.ofNat 3), .nt .u8 (.ofNat 3), .nt .u8 (.ofNat 52), .nt .u8 (.ofNat 4), .nt .u8 (.ofNat 4), .nt .u8 (.ofNat 4), .nt .u8 (.ofNat 68), .nt .u8 (.ofNat 241), .nt .u8 (.ofNat 241), .nt .u8 (.ofNat 241), .nt .u8 (.ofNat 241), .nt .u8 (.ofNat 241), .nt .u8 (.ofNat 241), .nt .u8 (.ofNat 241), .nt .u8 (.ofNat 241), .nt .u8 (.ofNat 241), .nt .u8 (.ofNat 241), .nt .u8 (.ofNat 241)]
def gl8 : List AV := [.nt .u8 (.ofNat 128), .nt .u8 (.ofNat 191), .nt .u8 (.ofNat 160), .nt .u8 (.ofNat 191), .nt .u8 (.ofNat 128), .nt .u8 (.ofNat 159), .nt .u8 (.ofNat 144), .nt .u8 (.ofNat 191), .nt .u8 (.ofNat 128), .nt .u8 (.ofNat 143), .nt .u8 (.ofNat 0), .nt .u8 (.ofNat 0), .nt .u8 (.ofNat 0), .nt .u8 (.ofNat 0), .nt .u8 (.ofNat 0), .nt .u8 (.ofNat 0), .nt .u8 (.ofNat 0), .nt .u8 (.ofNat 0), .nt .u8 (.ofNat 0), .nt .u8 (.ofNat 0), .nt .u8 (.ofNat 0), .nt .u8 (.ofNat 0), .nt .u8 (.ofNat 0), .nt .u8 (.ofNat 0), .nt .u8 (.ofNat 0), .nt .u8 (.ofNat 0), .nt .u8 (.ofNat 0), .nt .u8 (.ofNat 0), .nt .u8 (.ofNat 0), .nt .u8 (.ofNat 0), .nt .u8 (.ofNat 0), .nt .u8 (.ofNat 0)]
def gl9 : List AV := [.nt .u8 (.ofNat 0), .nt .u8 (.ofNat 1), .nt .u8 (.ofNat 28), .nt .u8 (.ofNat 2), .nt .u8 (.ofNat 29), .nt .u8 (.ofNat 14), .nt .u8 (.ofNat 24), .nt .u8 (.ofNat 3), .nt .u8 (.ofNat 30), .nt .u8 (.ofNat 22), .nt .u8 (.ofNat 20), .nt .u8 (.ofNat 15), .nt .u8 (.ofNat 25), .nt .u8 (.ofNat 17), .nt .u8 (.ofNat 4), .nt .u8 (.ofNat 8), .nt .u8 (.ofNat 31), .nt .u8 (.ofNat 27), .nt .u8 (.ofNat 13), .nt .u8 (.ofNat 23), .nt .u8 (.ofNat 21), .nt .u8 (.ofNat 19), .nt .u8 (.ofNat 16), .nt .u8 (.ofNat 7), .nt .u8 (.ofNat 26), .nt .u8 (.ofNat 12), .nt .u8 (.ofNat 18), .nt .u8 (.ofNat 6), .nt .u8 (.ofNat 11), .nt .u8 (.ofNat 5), .nt .u8 (.ofNat 10), .nt .u8 (.ofNat 9)]
def gl10 : List AV := [.nt .u8 (.ofNat 0), .nt .u8 (.ofNat 1), .nt .u8 (.ofNat 56), .nt .u8 (.ofNat 2), .nt .u8 (.ofNat 57), .nt .u8 (.ofNat 49), .nt .u8 (.ofNat 28), .nt .u8 (.ofNat 3), .nt .u8 (.ofNat 61), .nt .u8 (.ofNat 58), .nt .u8 (.ofNat 42), .nt .u8 (.ofNat 50), .nt .u8 (.ofNat 38), .nt .u8 (.ofNat 29), .nt .u8 (.ofNat 17), .nt .u8 (.ofNat 4), .nt .u8 (.ofNat 62), .nt .u8 (.ofNat 47), .nt .u8 (.ofNat 59), .nt .u8 (.ofNat 36), .nt .u8 (.ofNat 45), .nt .u8 (.ofNat 43), .nt .u8 (.ofNat 51), .nt .u8 (.ofNat 22), .nt .u8 (.ofNat 53), .nt .u8 (.ofNat 39), .nt .u8 (.ofNat 33), .nt .u8 (.ofNat 30), .nt .u8 (.ofNat 24), .nt .u8 (.ofNat 18), .nt .u8 (.ofNat 12), .nt .u8 (.ofNat 5), .nt .u8 (.ofNat 63), .nt .u8 (.ofNat 55), .nt .u8 (.ofNat 48), .nt .u8 (.ofNat 27), .nt .u8 (.ofNat 60), .nt .u8 (.ofNat 41), .nt .u8 (.ofNat 37), .nt .u8 (.ofNat 16), .nt .u8 (.ofNat 46), .nt .u8 (.ofNat 35), .nt .u8 (.ofNat 44), .nt .u8 (.ofNat 21), .nt .u8 (.ofNat 52), .nt .u8 (.ofNat 32), .nt .u8 (.ofNat 23), .nt .u8 (.ofNat 11), .nt .u8 (.ofNat 54), .nt .u8 (.ofNat 26), .nt .u8 (.ofNat 40), .nt .u8 (.ofNat 15), .nt .u8 (.ofNat 34), .nt .u8 (.ofNat 20), .nt .u8 (.ofNat 31), .nt .u8 (.ofNat 10), .nt .u8 (.ofNat 25), .nt .u8 (.ofNat 14), .nt .u8 (.ofNat 19), .nt .u8 (.ofNat 9), .nt .u8 (.ofNat 13), .nt .u8 (.ofNat 8), .nt .u8 (.ofNat 7), .nt .u8 (.ofNat 6)]
def glist : List (Nat × List AV) := [(0, gl0), (1, gl1), (2, gl2), (6, gl6), (7, gl7), (8, gl8), (9, gl9), (10, gl10)]
noncomputable def Hg : Heap := roHeap glist

/-- What all rows of this seat list. -/
def laidAll : List (String × DataW Unit) := Go.Proofs.YtpggmngncbpboaaGreatDoor.Rows.validateKnownRow.laid

theorem size11 : Tryz.prog.globals.size = 11 := by kernel_rfl
theorem at0 {W : World} (h : laidMet Tryz.prog laidAll W) : 0 < 11 ∧ gl0 ≠ [] ∧ AV.scs 11 gl0 ∧ ∀ (j : Nat) v, gl0[j]? = some v → W.cell? ⟨0, j, none⟩ = some (v.conc E0) :=
  start_of_laid (P := Tryz.prog) (name := "waypost/validate.nowhere") (d := Go.Proofs.YtpggmngncbpboaaGreatDoor.Rows.laid_waypost_validate_nowhere) h (by simp [laidAll, Go.Proofs.YtpggmngncbpboaaGreatDoor.Rows.validateKnownRow]) (g := 0) (f := 4) (t := 53) (by kernel_rfl) (by kernel_rfl) (by kernel_rfl) gl0 (by kernel_rfl) (by decide) (by simp [gl0]) (scs_plain 11 _ (by kernel_rfl))
theorem at1 {W : World} (h : laidMet Tryz.prog laidAll W) : 1 < 11 ∧ gl1 ≠ [] ∧ AV.scs 11 gl1 ∧ ∀ (j : Nat) v, gl1[j]? = some v → W.cell? ⟨1, j, none⟩ = some (v.conc E0) :=
  start_of_laid (P := Tryz.prog) (name := "waypost/template.names") (d := Go.Proofs.YtpggmngncbpboaaGreatDoor.Rows.laid_waypost_template_names) h (by simp [laidAll, Go.Proofs.YtpggmngncbpboaaGreatDoor.Rows.validateKnownRow]) (g := 1) (f := 4) (t := 201) (by kernel_rfl) (by kernel_rfl) (by kernel_rfl) gl1 (by kernel_rfl) (by decide) (by simp [gl1]) (scs_plain 11 _ (by kernel_rfl))
theorem at2 {W : World} (h : laidMet Tryz.prog laidAll W) : 2 < 11 ∧ gl2 ≠ [] ∧ AV.scs 11 gl2 ∧ ∀ (j : Nat) v, gl2[j]? = some v → W.cell? ⟨2, j, none⟩ = some (v.conc E0) :=
  start_of_laid (P := Tryz.prog) (name := "waypost/flag.codes") (d := Go.Proofs.YtpggmngncbpboaaGreatDoor.Rows.laid_waypost_flag_codes) h (by simp [laidAll, Go.Proofs.YtpggmngncbpboaaGreatDoor.Rows.validateKnownRow]) (g := 2) (f := 4) (t := 248) (by kernel_rfl) (by kernel_rfl) (by kernel_rfl) gl2 (by kernel_rfl) (by decide) (by simp [gl2]) (scs_plain 11 _ (by kernel_rfl))
theorem at6 {W : World} (h : laidMet Tryz.prog laidAll W) : 6 < 11 ∧ gl6 ≠ [] ∧ AV.scs 11 gl6 ∧ ∀ (j : Nat) v, gl6[j]? = some v → W.cell? ⟨6, j, none⟩ = some (v.conc E0) :=
  start_of_laid (P := Tryz.prog) (name := "internal/strconv.uint64pow10") (d := Go.Proofs.YtpggmngncbpboaaGreatDoor.Rows.laid_internal_strconv_uint64pow10) h (by simp [laidAll, Go.Proofs.YtpggmngncbpboaaGreatDoor.Rows.validateKnownRow]) (g := 6) (f := 4) (t := 304) (by kernel_rfl) (by kernel_rfl) (by kernel_rfl) gl6 (by kernel_rfl) (by decide) (by simp [gl6]) (scs_plain 11 _ (by kernel_rfl))
theorem at7 {W : World} (h : laidMet Tryz.prog laidAll W) : 7 < 11 ∧ gl7 ≠ [] ∧ AV.scs 11 gl7 ∧ ∀ (j : Nat) v, gl7[j]? = some v → W.cell? ⟨7, j, none⟩ = some (v.conc E0) :=
  start_of_laid (P := Tryz.prog) (name := "unicode/utf8.first") (d := Go.Proofs.YtpggmngncbpboaaGreatDoor.Rows.laid_unicode_utf8_first) h (by simp [laidAll, Go.Proofs.YtpggmngncbpboaaGreatDoor.Rows.validateKnownRow]) (g := 7) (f := 4) (t := 311) (by kernel_rfl) (by kernel_rfl) (by kernel_rfl) gl7 (by kernel_rfl) (by decide) (by simp [gl7]) (scs_plain 11 _ (by kernel_rfl))
theorem at8 {W : World} (h : laidMet Tryz.prog laidAll W) : 8 < 11 ∧ gl8 ≠ [] ∧ AV.scs 11 gl8 ∧ ∀ (j : Nat) v, gl8[j]? = some v → W.cell? ⟨8, j, none⟩ = some (v.conc E0) :=
  start_of_laid (P := Tryz.prog) (name := "unicode/utf8.acceptRanges") (d := Go.Proofs.YtpggmngncbpboaaGreatDoor.Rows.laid_unicode_utf8_acceptRanges) h (by simp [laidAll, Go.Proofs.YtpggmngncbpboaaGreatDoor.Rows.validateKnownRow]) (g := 8) (f := 4) (t := 314) (by kernel_rfl) (by kernel_rfl) (by kernel_rfl) gl8 (by kernel_rfl) (by decide) (by simp [gl8]) (scs_plain 11 _ (by kernel_rfl))
theorem at9 {W : World} (h : laidMet Tryz.prog laidAll W) : 9 < 11 ∧ gl9 ≠ [] ∧ AV.scs 11 gl9 ∧ ∀ (j : Nat) v, gl9[j]? = some v → W.cell? ⟨9, j, none⟩ = some (v.conc E0) :=
  start_of_laid (P := Tryz.prog) (name := "math/bits.deBruijn32tab") (d := Go.Proofs.YtpggmngncbpboaaGreatDoor.Rows.laid_math_bits_deBruijn32tab) h (by simp [laidAll, Go.Proofs.YtpggmngncbpboaaGreatDoor.Rows.validateKnownRow]) (g := 9) (f := 4) (t := 315) (by kernel_rfl) (by kernel_rfl) (by kernel_rfl) gl9 (by kernel_rfl) (by decide) (by simp [gl9]) (scs_plain 11 _ (by kernel_rfl))
theorem at10 {W : World} (h : laidMet Tryz.prog laidAll W) : 10 < 11 ∧ gl10 ≠ [] ∧ AV.scs 11 gl10 ∧ ∀ (j : Nat) v, gl10[j]? = some v → W.cell? ⟨10, j, none⟩ = some (v.conc E0) :=
  start_of_laid (P := Tryz.prog) (name := "math/bits.deBruijn64tab") (d := Go.Proofs.YtpggmngncbpboaaGreatDoor.Rows.laid_math_bits_deBruijn64tab) h (by simp [laidAll, Go.Proofs.YtpggmngncbpboaaGreatDoor.Rows.validateKnownRow]) (g := 10) (f := 4) (t := 316) (by kernel_rfl) (by kernel_rfl) (by kernel_rfl) gl10 (by kernel_rfl) (by decide) (by simp [gl10]) (scs_plain 11 _ (by kernel_rfl))

theorem start_sim {W : World} (h : laidMet Tryz.prog laidAll W) : Sim Tryz.prog.globals.size E0 Hg 11 W := by
  have key : ∀ G, G = 11 → Sim G E0 Hg 11 W := by
    rintro _ rfl
    refine sim_start glist ?_
    intro x hx
    simp only [glist, List.mem_cons, List.not_mem_nil, or_false] at hx
    rcases hx with rfl | rfl | rfl | rfl | rfl | rfl | rfl | rfl
    · exact at0 h
    · exact at1 h
    · exact at2 h
    · exact at6 h
    · exact at7 h
    · exact at8 h
    · exact at9 h
    · exact at10 h
  exact key _ size11
theorem hg_ro : AllRo Hg := roHeap_ro glist

/-! ### the known functions -/
noncomputable def XTb : PT (List AV → Heap → Nat → Option (AV × Heap × Nat)) := ((PT.lf.set 230 xIndexByte).set 279 xCount).set 198 xSame
noncomputable def xtab : Known := knownOf XTb
theorem xtab_ok : ∀ X, CallOk X Tryz.prog (knownA xtab) := fun X => callOk_of fun g f h => by
  have h : XTb.get g = some f := h
  unfold XTb at h
  rw [PT.get_set] at h
  split at h
  · rename_i e; subst e; cases h; exact ok198
  · rw [PT.get_set] at h
    split at h
    · rename_i e; subst e; cases h; exact ok279
    · rw [PT.get_set] at h
      split at h
      · rename_i e; subst e; cases h; exact ok230
      · rw [PT.get_lf] at h; cases h
noncomputable def DTb : PT Func := (PT.lf.set 210 Tryz.f210).set 238 Tryz.f238
noncomputable def dtab (g : Nat) : Option Func := DTb.get g
theorem dtab_ok : FtOk Tryz.prog dtab := fun g fn h => by
  have h : DTb.get g = some fn := h
  unfold DTb at h
  rw [PT.get_set] at h
  split at h
  · rename_i e; subst e; cases h; exact ⟨Tryz.func238, by kernel_rfl⟩
  · rw [PT.get_set] at h
    split at h
    · rename_i e; subst e; cases h; exact ⟨Tryz.func210, by kernel_rfl⟩
    · rw [PT.get_lf] at h; cases h
theorem mixed : Tryz.prog.follows .mixedOrders = true := by kernel_rfl

/-- The answer is true. -/
def ansT (r : Option (AV × Heap × Nat)) : Bool := match r with | some (.bo true, _, _) => true | _ => false
/-- What a function without arguments comes to. -/
noncomputable def ev0 (g : Nat) : Option (AV × Heap × Nat) := callsB Tryz.prog ftab dtab xtab 99999 [] (.fn g) [] Hg 11

/-- A law without arguments, out of its evaluation. -/
theorem closed_walk {g : Nat} {p : Nat × FC} (hg : ftab g = some p) (he : ansT (ev0 g) = true)
    {W : World} (h : laidMet Tryz.prog laidAll W) : Calls Tryz.prog g #[] W fun e w' => e = .returned (.bool true) ∧ Below W.heap.size W w' := by
  unfold ansT at he
  split at he
  · rename_i h2 n2 hr
    unfold ev0 at hr
    refine (callsB_calls xtab_ok ftab_ok dtab_ok mixed hg hr (start_sim h) trivial).mono ?_
    rintro e w' ⟨E', rfl, hd⟩
    exact ⟨rfl, below_of_done hg_ro hd⟩
  · cases he
end Go.AE
