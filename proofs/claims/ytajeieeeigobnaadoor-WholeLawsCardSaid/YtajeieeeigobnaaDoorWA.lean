/- What awakes. -/
import Derived.Test.YtajeieeeigobnaaDoorA
import Derived.Test.YtajeieeeigobnaaDoorStEv
namespace Go.Proofs.YtajeieeeigobnaaDoor
open Go.St
set_option linter.unusedVariables false
theorem awake_spec : CallR ap 12 [] [] = some (.ret (.bool true), []) := ev_call 100000 (by kernel_rfl)
end Go.Proofs.YtajeieeeigobnaaDoor
