/- The table of the known functions without a body, and that it is right. -/
import Derived.Test.YtpggmngncbpboaaGreatDoorFt
open Go.Proofs
namespace Go.AE
set_option maxRecDepth 100000

theorem ok230 : FnOk Tryz.prog 230 xIndexByte := fnOk_indexByte Tryz.func230 (by kernel_rfl) (by kernel_rfl) (by kernel_rfl) (by kernel_rfl)
theorem ok279 : FnOk Tryz.prog 279 xCount := fnOk_count Tryz.func279 (by kernel_rfl) (by kernel_rfl) (by kernel_rfl) (by kernel_rfl)
theorem ok198 : FnOk Tryz.prog 198 xSame := fnOk_same Tryz.func198 (by kernel_rfl) (by kernel_rfl) (by kernel_rfl) (by kernel_rfl)
end Go.AE
