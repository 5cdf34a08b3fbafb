/-
  DERIVED. GIVEN WITH THE SEED: THE CARDS: each row of YtcgepgahgihojaaDoorRows.lean that lists a variable, with what it lists TIED to the program's text (the seventh form; the later family's looks); each row that meets fmt, with fmt's text TOLD by the authors' own Lean function (tested against real Go, not proved from fmt's source: count such statements apart). THE CARD IS WHAT COUNTS. Prove the row's statement (the work); the ties are given (YtcgepgahgihojaaDoorTie.lean); close each card by the builder's one call (the guide's Derived/Test/ToyasCard.lean, 'card_holds'). Laid BY PROGRAM, IN A SANDBOX (cutbox-door.mjs). By AI agents, Wed Nov 11 2026. No macro, syntax, notation, axiom, sorry.
-/
import Derived.Test.YtcgepgahgihojaaDoorRows
import GoSem.ClaimSeven
namespace Go.Proofs.YtcgepgahgihojaaDoor
namespace Rows

/-- THE TIED CARD OF 'stencillaw22.VerifyTrees'. -/
def verifyTreesCard : Claim7 := { stood := { row := verifyTreesRow, standIns := [], harness := (true, "14500820ef26d7cd369a4c95556c560b1eb399ef5ce59ad5362512e8f2796487"), looks := false }, kinds := [], alts := [], laidByText := true, laidKinds := [.data, .pinned], laidTests := true, laidLooks := .later }
def VerifyTreesCardSaid : Prop := Claim7.holds Tryd.pinned (.plain (OpenSpec.ofChange verifyTreesSpec)) verifyTreesCard

/-- THE TIED CARD OF 'stencillaw22.VerifyMore'. -/
def verifyMoreCard : Claim7 := { stood := { row := verifyMoreRow, standIns := [], harness := (true, "14500820ef26d7cd369a4c95556c560b1eb399ef5ce59ad5362512e8f2796487"), looks := false }, kinds := [], alts := [], laidByText := true, laidKinds := [.data, .pinned], laidTests := true, laidLooks := .later }
def VerifyMoreCardSaid : Prop := Claim7.holds Tryd.pinned (.plain (OpenSpec.ofChange verifyMoreSpec)) verifyMoreCard

/-- THE TIED CARD OF 'stencillaw22.VerifyCuts'. -/
def verifyCutsCard : Claim7 := { stood := { row := verifyCutsRow, standIns := [], harness := (true, "14500820ef26d7cd369a4c95556c560b1eb399ef5ce59ad5362512e8f2796487"), looks := false }, kinds := [], alts := [], laidByText := true, laidKinds := [.data, .pinned], laidTests := true, laidLooks := .later }
def VerifyCutsCardSaid : Prop := Claim7.holds Tryd.pinned (.plain (OpenSpec.ofChange verifyCutsSpec)) verifyCutsCard

/-- THE SECOND FORM's CARD OF 'stencillaw22.VerifyTrees'. -/
def verifyTreesUptoCard : Claim7 := { stood := { row := verifyTreesUptoRow, standIns := [], harness := (true, "14500820ef26d7cd369a4c95556c560b1eb399ef5ce59ad5362512e8f2796487"), looks := false }, kinds := [], alts := [], laidByText := true, laidKinds := [.data, .pinned], laidTests := true, laidLooks := .later }
def VerifyTreesUptoCardSaid : Prop := Claim7.holds Tryd.pinned (.plain (OpenSpec.upto verifyTreesSpec)) verifyTreesUptoCard

/-- THE SECOND FORM's CARD OF 'stencillaw22.VerifyMore'. -/
def verifyMoreUptoCard : Claim7 := { stood := { row := verifyMoreUptoRow, standIns := [], harness := (true, "14500820ef26d7cd369a4c95556c560b1eb399ef5ce59ad5362512e8f2796487"), looks := false }, kinds := [], alts := [], laidByText := true, laidKinds := [.data, .pinned], laidTests := true, laidLooks := .later }
def VerifyMoreUptoCardSaid : Prop := Claim7.holds Tryd.pinned (.plain (OpenSpec.upto verifyMoreSpec)) verifyMoreUptoCard

/-- THE SECOND FORM's CARD OF 'stencillaw22.VerifyCuts'. -/
def verifyCutsUptoCard : Claim7 := { stood := { row := verifyCutsUptoRow, standIns := [], harness := (true, "14500820ef26d7cd369a4c95556c560b1eb399ef5ce59ad5362512e8f2796487"), looks := false }, kinds := [], alts := [], laidByText := true, laidKinds := [.data, .pinned], laidTests := true, laidLooks := .later }
def VerifyCutsUptoCardSaid : Prop := Claim7.holds Tryd.pinned (.plain (OpenSpec.upto verifyCutsSpec)) verifyCutsUptoCard
end Rows
end Go.Proofs.YtcgepgahgihojaaDoor
