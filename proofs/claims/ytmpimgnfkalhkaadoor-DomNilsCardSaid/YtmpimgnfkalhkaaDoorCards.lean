/-
  DERIVED. GIVEN WITH THE SEED: THE CARDS: each row of YtmpimgnfkalhkaaDoorRows.lean that lists a variable, with what it lists TIED to the program's text (the seventh form; the later family's looks); each row that meets fmt, with fmt's text TOLD by the authors' own Lean function (tested against real Go, not proved from fmt's source: count such statements apart). THE CARD IS WHAT COUNTS. Prove the row's statement (the work); the ties are given (YtmpimgnfkalhkaaDoorTie.lean); close each card by the builder's one call (the guide's Derived/Test/ToyasCard.lean, 'card_holds'). Laid BY PROGRAM, IN A SANDBOX (cutbox-door.mjs). By AI agents, Wed Nov 11 2026. No macro, syntax, notation, axiom, sorry.
-/
import Derived.Test.YtmpimgnfkalhkaaDoorRows
import GoSem.ClaimSeven
namespace Go.Proofs.YtmpimgnfkalhkaaDoor
namespace Rows

/-- THE TIED CARD OF 'stencillaw8.DomBuilds'. -/
def domBuildsCard : Claim7 := { stood := { row := domBuildsRow, standIns := [], harness := (true, "e12fbff099e33fc3a6cc9569ceba4d7f17195ce6462899e92a6df792a8c5e851"), looks := false }, kinds := [], alts := [], laidByText := true, laidKinds := [.data, .pinned], laidTests := true, laidLooks := .later }
def DomBuildsCardSaid : Prop := Claim7.holds Tryd.pinned (.plain (OpenSpec.ofChange domBuildsSpec)) domBuildsCard

/-- THE TIED CARD OF 'stencillaw8.DomNils'. -/
def domNilsCard : Claim7 := { stood := { row := domNilsRow, standIns := [], harness := (true, "e12fbff099e33fc3a6cc9569ceba4d7f17195ce6462899e92a6df792a8c5e851"), looks := false }, kinds := [], alts := [], laidByText := true, laidKinds := [.data, .pinned], laidTests := true, laidLooks := .later }
def DomNilsCardSaid : Prop := Claim7.holds Tryd.pinned (.plain (OpenSpec.ofChange domNilsSpec)) domNilsCard

/-- THE SECOND FORM's CARD OF 'stencillaw8.DomBuilds'. -/
def domBuildsUptoCard : Claim7 := { stood := { row := domBuildsUptoRow, standIns := [], harness := (true, "e12fbff099e33fc3a6cc9569ceba4d7f17195ce6462899e92a6df792a8c5e851"), looks := false }, kinds := [], alts := [], laidByText := true, laidKinds := [.data, .pinned], laidTests := true, laidLooks := .later }
def DomBuildsUptoCardSaid : Prop := Claim7.holds Tryd.pinned (.plain (OpenSpec.upto domBuildsSpec)) domBuildsUptoCard

/-- THE SECOND FORM's CARD OF 'stencillaw8.DomNils'. -/
def domNilsUptoCard : Claim7 := { stood := { row := domNilsUptoRow, standIns := [], harness := (true, "e12fbff099e33fc3a6cc9569ceba4d7f17195ce6462899e92a6df792a8c5e851"), looks := false }, kinds := [], alts := [], laidByText := true, laidKinds := [.data, .pinned], laidTests := true, laidLooks := .later }
def DomNilsUptoCardSaid : Prop := Claim7.holds Tryd.pinned (.plain (OpenSpec.upto domNilsSpec)) domNilsUptoCard
end Rows
end Go.Proofs.YtmpimgnfkalhkaaDoor
