/- Cores: awake's calls. -/
import Derived.Test.YtnjpbbiolngfkaaDoorPX
namespace Go.Proofs.YtnjpbbiolngfkaaDoor
open Go.St Go.Lib
set_option linter.unusedVariables false
set_option linter.unusedSimpArgs false
theorem w4 : CallR ap 11 [.is (wE ++ wE) 2 .full] wS = some (.ret (.is [.int .i64 0, .int .i64 2] 2 .no), wS) := ev_call 20000 (by kernel_rfl)
theorem w5 : CallR ap 12 [.is [.int .i64 0, .int .i64 2] 2 .no, .is [.int .i64 0, .int .i64 2] 2 .full] wS = some (.ret (.bool true), wS) := ev_call 20000 (by kernel_rfl)
end Go.Proofs.YtnjpbbiolngfkaaDoor
