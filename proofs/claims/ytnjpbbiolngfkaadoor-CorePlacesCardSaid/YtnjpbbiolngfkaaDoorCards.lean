/-
  DERIVED. GIVEN WITH THE SEED: THE CARDS: each row of YtnjpbbiolngfkaaDoorRows.lean that lists a variable, with what it lists TIED to the program's text (the seventh form; the later family's looks); each row that meets fmt, with fmt's text TOLD by the authors' own Lean function (tested against real Go, not proved from fmt's source: count such statements apart). THE CARD IS WHAT COUNTS. Prove the row's statement (the work); the ties are given (YtnjpbbiolngfkaaDoorTie.lean); close each card by the builder's one call (the guide's Derived/Test/ToyasCard.lean, 'card_holds'). Laid BY PROGRAM, IN A SANDBOX (cutbox-door.mjs). By AI agents, Wed Nov 11 2026. No macro, syntax, notation, axiom, sorry.
-/
import Derived.Test.YtnjpbbiolngfkaaDoorRows
import GoSem.ClaimSeven
namespace Go.Proofs.YtnjpbbiolngfkaaDoor
namespace Rows

/-- THE TIED CARD OF 'stencillaw15.CoreJoins'. -/
def coreJoinsCard : Claim7 := { stood := { row := coreJoinsRow, standIns := [], harness := (true, "4158d9ff436f78c631c08db6c279630d04d0c3693d1277d1ece8269b32433fe1"), looks := false }, kinds := [], alts := [], laidByText := true, laidKinds := [.data, .listed, .data, .pinned], laidTests := true, laidLooks := .later }
def CoreJoinsCardSaid : Prop := Claim7.holds Tryd.pinned (.plain (OpenSpec.ofChange coreJoinsSpec)) coreJoinsCard

/-- THE TIED CARD OF 'stencillaw15.CorePlaces'. -/
def corePlacesCard : Claim7 := { stood := { row := corePlacesRow, standIns := [], harness := (true, "4158d9ff436f78c631c08db6c279630d04d0c3693d1277d1ece8269b32433fe1"), looks := false }, kinds := [], alts := [], laidByText := true, laidKinds := [.data, .listed, .data, .pinned], laidTests := true, laidLooks := .later }
def CorePlacesCardSaid : Prop := Claim7.holds Tryd.pinned (.plain (OpenSpec.ofChange corePlacesSpec)) corePlacesCard

/-- THE SECOND FORM's CARD OF 'stencillaw15.CoreJoins'. -/
def coreJoinsUptoCard : Claim7 := { stood := { row := coreJoinsUptoRow, standIns := [], harness := (true, "4158d9ff436f78c631c08db6c279630d04d0c3693d1277d1ece8269b32433fe1"), looks := false }, kinds := [], alts := [], laidByText := true, laidKinds := [.data, .listed, .data, .pinned], laidTests := true, laidLooks := .later }
def CoreJoinsUptoCardSaid : Prop := Claim7.holds Tryd.pinned (.plain (OpenSpec.upto coreJoinsSpec)) coreJoinsUptoCard

/-- THE SECOND FORM's CARD OF 'stencillaw15.CorePlaces'. -/
def corePlacesUptoCard : Claim7 := { stood := { row := corePlacesUptoRow, standIns := [], harness := (true, "4158d9ff436f78c631c08db6c279630d04d0c3693d1277d1ece8269b32433fe1"), looks := false }, kinds := [], alts := [], laidByText := true, laidKinds := [.data, .listed, .data, .pinned], laidTests := true, laidLooks := .later }
def CorePlacesUptoCardSaid : Prop := Claim7.holds Tryd.pinned (.plain (OpenSpec.upto corePlacesSpec)) corePlacesUptoCard
end Rows
end Go.Proofs.YtnjpbbiolngfkaaDoor
