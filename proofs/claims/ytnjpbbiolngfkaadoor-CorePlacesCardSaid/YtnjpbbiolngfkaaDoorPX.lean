/- Cores: awake's calls. -/
import Derived.Test.YtnjpbbiolngfkaaDoorPW
namespace Go.Proofs.YtnjpbbiolngfkaaDoor
open Go.St Go.Lib
set_option linter.unusedVariables false
set_option linter.unusedSimpArgs false
theorem w3 : CallR ap 10 [.is (wE ++ wE) 2 .full] wS = some (.ret (.int .i64 4), wS) := ev_call 20000 (by kernel_rfl)
end Go.Proofs.YtnjpbbiolngfkaaDoor
