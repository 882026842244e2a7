/- ValidateKnown, evaluated by the kernel. -/
import Derived.Test.YtpggmngncbpboaaGreatDoorGlob
namespace Go.AE
set_option maxHeartbeats 0
set_option maxRecDepth 1000000
theorem ev_known : ansT (ev0 4) = true := by kernel_rfl
end Go.AE
