/-
  DERIVED. GIVEN WITH THE SEED: THE CARDS: each row of YtcgepgahgihojaaGreatDoorRows.lean that lists a variable, with what it lists TIED to the program's text (the seventh form; the later family's looks); each row that meets fmt, with fmt's text TOLD by the authors' own Lean function (tested against real Go, not proved from fmt's source: count such statements apart). THE CARD IS WHAT COUNTS. Prove the row's statement (the work); the ties are given (YtcgepgahgihojaaGreatDoorTie.lean); close each card by the builder's one call (the guide's Derived/Test/ToyasCard.lean, 'card_holds'). Laid BY PROGRAM, IN A SANDBOX (cutbox-door.mjs). By AI agents, Wed Nov 11 2026. No macro, syntax, notation, axiom, sorry.
-/
import Derived.Test.YtcgepgahgihojaaGreatDoorRows
import GoSem.ClaimSeven
namespace Go.Proofs.YtcgepgahgihojaaGreatDoor
namespace Rows

/-- THE TIED CARD OF 'stencillaw22.VerifyPrograms'. -/
def verifyProgramsCard : Claim7 := { stood := { row := verifyProgramsRow, standIns := [], harness := (true, "193ff7d5c63dbbc5096e041a3feeb68ded4e26eafd25e5131878f990fd2504ad"), looks := false }, kinds := [], alts := [], laidByText := true, laidKinds := [.data, .pinned], laidTests := true, laidLooks := .later }
def VerifyProgramsCardSaid : Prop := Claim7.holds Tryz.pinned (.plain (OpenSpec.ofChange verifyProgramsSpec)) verifyProgramsCard

/-- THE SECOND FORM's CARD OF 'stencillaw22.VerifyPrograms'. -/
def verifyProgramsUptoCard : Claim7 := { stood := { row := verifyProgramsUptoRow, standIns := [], harness := (true, "193ff7d5c63dbbc5096e041a3feeb68ded4e26eafd25e5131878f990fd2504ad"), looks := false }, kinds := [], alts := [], laidByText := true, laidKinds := [.data, .pinned], laidTests := true, laidLooks := .later }
def VerifyProgramsUptoCardSaid : Prop := Claim7.holds Tryz.pinned (.plain (OpenSpec.upto verifyProgramsSpec)) verifyProgramsUptoCard
end Rows
end Go.Proofs.YtcgepgahgihojaaGreatDoor
