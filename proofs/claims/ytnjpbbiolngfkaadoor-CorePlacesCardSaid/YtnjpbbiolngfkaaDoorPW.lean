/- Cores: awake's calls. -/
import Derived.Test.YtnjpbbiolngfkaaDoorPF
import Derived.KernelRfl
namespace Go.Proofs.YtnjpbbiolngfkaaDoor
open Go.St Go.Lib
set_option linter.unusedVariables false
set_option linter.unusedSimpArgs false

def wT : AV := .is [.int .i64 1, .str ⟨#[]⟩, .nils, .is [.str ⟨#[120]⟩, .bool false, .int .i64 0, .int .i64 0, .str ⟨#[]⟩, .nils] 1 .full, .nils, .nils, .nils] 1 .full
def wE : List AV := [.int .i64 2, .str ⟨#[112]⟩, .nils, .nils, .nils, wT, .nils]
def wP : List AV := [.int .i64 2, .str ⟨#[80]⟩, .nils, .nils, .nils, .nils, .nils]
def wS : Sto := [.cells 0 wE 0]
theorem w1 : CallR ap 8 [.is wE 1 .full] wS = some (.ret (.int .i64 0), wS) := ev_call 20000 (by kernel_rfl)
theorem w2 : CallR ap 8 [.is wP 1 .full] wS = some (.ret (.int .i64 1500), wS) := ev_call 20000 (by kernel_rfl)
theorem w6 : CallR ap 13 [.is wE 1 .full] wS = some (.ret (.int .i64 0), wS) := ev_call 20000 (by kernel_rfl)
end Go.Proofs.YtnjpbbiolngfkaaDoor
