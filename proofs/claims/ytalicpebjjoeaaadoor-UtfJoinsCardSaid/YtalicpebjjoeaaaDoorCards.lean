/-
  DERIVED. GIVEN WITH THE SEED: THE CARDS: each row of YtalicpebjjoeaaaDoorRows.lean that lists a variable, with what it lists TIED to the program's text (the seventh form; the later family's looks); each row that meets fmt, with fmt's text TOLD by the authors' own Lean function (tested against real Go, not proved from fmt's source: count such statements apart). THE CARD IS WHAT COUNTS. Prove the row's statement (the work); the ties are given (YtalicpebjjoeaaaDoorTie.lean); close each card by the builder's one call (the guide's Derived/Test/ToyasCard.lean, 'card_holds'). Laid BY PROGRAM, IN A SANDBOX (cutbox-door.mjs). By AI agents, Wed Nov 11 2026. No macro, syntax, notation, axiom, sorry.
-/
import Derived.Test.YtalicpebjjoeaaaDoorRows
import GoSem.ClaimSeven
namespace Go.Proofs.YtalicpebjjoeaaaDoor
namespace Rows

/-- THE TIED CARD OF 'stencillaw3.UtfValids'. -/
def utfValidsCard : Claim7 := { stood := { row := utfValidsRow, standIns := [], harness := (true, "53b534028354f328bccf9f42e7fbbeae1690d4a4fbc6c9948e4563ca0545aa05"), looks := false }, kinds := [], alts := [], laidByText := true, laidKinds := [.data, .pinned], laidTests := true, laidLooks := .later }
def UtfValidsCardSaid : Prop := Claim7.holds Tryd.pinned (.plain (OpenSpec.ofChange utfValidsSpec)) utfValidsCard

/-- THE TIED CARD OF 'stencillaw3.UtfPlaces'. -/
def utfPlacesCard : Claim7 := { stood := { row := utfPlacesRow, standIns := [], harness := (true, "53b534028354f328bccf9f42e7fbbeae1690d4a4fbc6c9948e4563ca0545aa05"), looks := false }, kinds := [], alts := [], laidByText := true, laidKinds := [.data, .pinned], laidTests := true, laidLooks := .later }
def UtfPlacesCardSaid : Prop := Claim7.holds Tryd.pinned (.plain (OpenSpec.ofChange utfPlacesSpec)) utfPlacesCard

/-- THE TIED CARD OF 'stencillaw3.UtfNames'. -/
def utfNamesCard : Claim7 := { stood := { row := utfNamesRow, standIns := [], harness := (true, "53b534028354f328bccf9f42e7fbbeae1690d4a4fbc6c9948e4563ca0545aa05"), looks := false }, kinds := [], alts := [], laidByText := true, laidKinds := [.data, .pinned], laidTests := true, laidLooks := .later }
def UtfNamesCardSaid : Prop := Claim7.holds Tryd.pinned (.plain (OpenSpec.ofChange utfNamesSpec)) utfNamesCard

/-- THE TIED CARD OF 'stencillaw3.UtfJoins'. -/
def utfJoinsCard : Claim7 := { stood := { row := utfJoinsRow, standIns := [], harness := (true, "53b534028354f328bccf9f42e7fbbeae1690d4a4fbc6c9948e4563ca0545aa05"), looks := false }, kinds := [], alts := [], laidByText := true, laidKinds := [.data, .pinned], laidTests := true, laidLooks := .later }
def UtfJoinsCardSaid : Prop := Claim7.holds Tryd.pinned (.plain (OpenSpec.ofChange utfJoinsSpec)) utfJoinsCard

/-- THE SECOND FORM's CARD OF 'stencillaw3.UtfValids'. -/
def utfValidsUptoCard : Claim7 := { stood := { row := utfValidsUptoRow, standIns := [], harness := (true, "53b534028354f328bccf9f42e7fbbeae1690d4a4fbc6c9948e4563ca0545aa05"), looks := false }, kinds := [], alts := [], laidByText := true, laidKinds := [.data, .pinned], laidTests := true, laidLooks := .later }
def UtfValidsUptoCardSaid : Prop := Claim7.holds Tryd.pinned (.plain (OpenSpec.upto utfValidsSpec)) utfValidsUptoCard

/-- THE SECOND FORM's CARD OF 'stencillaw3.UtfPlaces'. -/
def utfPlacesUptoCard : Claim7 := { stood := { row := utfPlacesUptoRow, standIns := [], harness := (true, "53b534028354f328bccf9f42e7fbbeae1690d4a4fbc6c9948e4563ca0545aa05"), looks := false }, kinds := [], alts := [], laidByText := true, laidKinds := [.data, .pinned], laidTests := true, laidLooks := .later }
def UtfPlacesUptoCardSaid : Prop := Claim7.holds Tryd.pinned (.plain (OpenSpec.upto utfPlacesSpec)) utfPlacesUptoCard

/-- THE SECOND FORM's CARD OF 'stencillaw3.UtfNames'. -/
def utfNamesUptoCard : Claim7 := { stood := { row := utfNamesUptoRow, standIns := [], harness := (true, "53b534028354f328bccf9f42e7fbbeae1690d4a4fbc6c9948e4563ca0545aa05"), looks := false }, kinds := [], alts := [], laidByText := true, laidKinds := [.data, .pinned], laidTests := true, laidLooks := .later }
def UtfNamesUptoCardSaid : Prop := Claim7.holds Tryd.pinned (.plain (OpenSpec.upto utfNamesSpec)) utfNamesUptoCard

/-- THE SECOND FORM's CARD OF 'stencillaw3.UtfJoins'. -/
def utfJoinsUptoCard : Claim7 := { stood := { row := utfJoinsUptoRow, standIns := [], harness := (true, "53b534028354f328bccf9f42e7fbbeae1690d4a4fbc6c9948e4563ca0545aa05"), looks := false }, kinds := [], alts := [], laidByText := true, laidKinds := [.data, .pinned], laidTests := true, laidLooks := .later }
def UtfJoinsUptoCardSaid : Prop := Claim7.holds Tryd.pinned (.plain (OpenSpec.upto utfJoinsSpec)) utfJoinsUptoCard
end Rows
end Go.Proofs.YtalicpebjjoeaaaDoor
