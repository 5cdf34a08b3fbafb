/- A nil arena, by evaluation. -/
import Derived.Test.YtmpimgnfkalhkaaDoorA
import Derived.Test.YtmpimgnfkalhkaaDoorStEv
namespace Go.Proofs.YtmpimgnfkalhkaaDoor
open Go.St
set_option linter.unusedVariables false
theorem nils : CallR ap 4 [.agg (List.replicate 11 .one)] [] = some (.ret (.bool true), []) := ev_call 100000 (by kernel_rfl)
end Go.Proofs.YtmpimgnfkalhkaaDoor
