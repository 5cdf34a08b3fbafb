/-
  No cell of these rows narrows 'for every input' (looked for: loops, veiled, ifaces, maps, wideKeys, modest, calm, conditions, laid).
  DERIVED. THE GIVEN ROWS OF THIS SEAT. 3 by the template 'for every input the law returns true; each argument reads behind the call as it read before'; 0 by the template 'total and deterministic' (their statements: YtbkfmhahbcodkaaTotals.lean).
  GIVEN WITH THE SEED: the statements are not yours to turn. If you find one false, say at which input.
  Laid BY PROGRAM, IN A SANDBOX (cutbox-rows.mjs): the forced cells as the released guide's own fill.sh prints them over the translation 732d9cdd3e24bdb7… (all of the seat's roots in one cut). By AI agents, Wed Nov 11 2026. No macro, syntax, notation, axiom, sorry.
-/
import Derived.Test.YtbkfmhahbcodkaaChecked
import GoSem.Claim
import GoSem.ClaimJoined
import GoSem.ClaimMapViews
import Derived.JoinedTies
import Derived.KernelRfl
namespace Go.Proofs.Ytbkfmhahbcodkaa
/- THE CELL 'sum', in the pinned program and in every row, IS THE sha256 OF THE DUMP (.gsa) THAT YtbkfmhahbcodkaaProg.lean LOADS. Nothing in Lean hashes anything: it is a label: what it is worth is what the hold of that sum in a sandbox is worth. -/
noncomputable def Try.pinned : Pinned := { name := "ytbkfmhahbcodkaa", sum := "732d9cdd3e24bdb71e57a7bba94776197887f41b093b577e39eccd6edb571e77", checked := Try.checked }
namespace Rows
def none {H : Type} : Left H := { results := [], args := [] }

/-- 'stencillaw4.HtmlTexts': WHATEVER THE INPUT: true; the input reads as it did. -/
def htmlTextsSpec : ChangeSpec := { name := "htmlTexts", fn := fun _ => fun
  | [d1, d2] => { results := [.lit (.bool true)], args := [d1, d2] }
  | _ => none }
def htmlTextsRow : OpenClaim := { program := "ytbkfmhahbcodkaa", sum := "732d9cdd3e24bdb71e57a7bba94776197887f41b093b577e39eccd6edb571e77", func := "stencil/stencillaw4.HtmlTexts", spec := "htmlTexts", inPlace := ["internal/abi.NoEscape"], apart := false }
def HtmlTextsSaid : Prop := htmlTextsRow.holds Try.pinned (OpenSpec.ofChange htmlTextsSpec)

/-- ITS FALSE NEIGHBOUR: 'it returns false'. Refute it at one input. -/
def htmlTextsWrong : ChangeSpec := { name := "htmlTexts", fn := fun _ => fun
  | [d1, d2] => { results := [.lit (.bool false)], args := [d1, d2] }
  | _ => none }
def HtmlTextsWrongFalsely : Prop := htmlTextsRow.holds Try.pinned (OpenSpec.ofChange htmlTextsWrong)

/-- 'stencillaw4.HtmlPlains': WHATEVER THE INPUT: true; the input reads as it did. -/
def htmlPlainsSpec : ChangeSpec := { name := "htmlPlains", fn := fun _ => fun
  | [d] => { results := [.lit (.bool true)], args := [d] }
  | _ => none }
def htmlPlainsRow : OpenClaim := { program := "ytbkfmhahbcodkaa", sum := "732d9cdd3e24bdb71e57a7bba94776197887f41b093b577e39eccd6edb571e77", func := "stencil/stencillaw4.HtmlPlains", spec := "htmlPlains", inPlace := ["internal/abi.NoEscape"], apart := false }
def HtmlPlainsSaid : Prop := htmlPlainsRow.holds Try.pinned (OpenSpec.ofChange htmlPlainsSpec)

/-- ITS FALSE NEIGHBOUR: 'it returns false'. Refute it at one input. -/
def htmlPlainsWrong : ChangeSpec := { name := "htmlPlains", fn := fun _ => fun
  | [d] => { results := [.lit (.bool false)], args := [d] }
  | _ => none }
def HtmlPlainsWrongFalsely : Prop := htmlPlainsRow.holds Try.pinned (OpenSpec.ofChange htmlPlainsWrong)

/-- 'stencillaw4.HtmlBack': WHATEVER THE INPUT: true; the input reads as it did. -/
def htmlBackSpec : ChangeSpec := { name := "htmlBack", fn := fun _ => fun
  | [d] => { results := [.lit (.bool true)], args := [d] }
  | _ => none }
def htmlBackRow : OpenClaim := { program := "ytbkfmhahbcodkaa", sum := "732d9cdd3e24bdb71e57a7bba94776197887f41b093b577e39eccd6edb571e77", func := "stencil/stencillaw4.HtmlBack", spec := "htmlBack", inPlace := ["internal/abi.NoEscape"], apart := false }
def HtmlBackSaid : Prop := htmlBackRow.holds Try.pinned (OpenSpec.ofChange htmlBackSpec)

/-- ITS FALSE NEIGHBOUR: 'it returns false'. Refute it at one input. -/
def htmlBackWrong : ChangeSpec := { name := "htmlBack", fn := fun _ => fun
  | [d] => { results := [.lit (.bool false)], args := [d] }
  | _ => none }
def HtmlBackWrongFalsely : Prop := htmlBackRow.holds Try.pinned (OpenSpec.ofChange htmlBackWrong)

/- THE SECOND FORM. 'bulk': how many values and letters a reading holds, each counted each time it is reached (what is shared counts as often as it is met; a slice's spare places count too). A statement '..UptoSaid' is the law's where the arguments, and the package variables that the reading takes, are together of bulk at most 1048576: NARROWER than '..Said'. Prove '..Said' where nothing that the law and all that it calls make is longer than what came in: it says more and counts as full. Else prove '..UptoSaid'. A law counts once. -/
mutual
def uptoBulk {H : Type} : DataW H → Nat
  | .lit (.string bytes) => bytes.length + 1
  | .lit _ => 1
  | .nil => 1
  | .ptr d => uptoBulk d + 1
  | .slice elems spare => uptoBulkAll elems + uptoBulkAll spare + 1
  | .agg parts => uptoBulkAll parts + 1
  | .iface _ d => uptoBulk d + 1
  | .map entries => uptoBulkEntries entries + 1
  | .held _ => 1
def uptoBulkAll {H : Type} : List (DataW H) → Nat
  | [] => 0
  | d :: r => uptoBulk d + uptoBulkAll r
def uptoBulkEntries {H : Type} : List (Lit × DataW H) → Nat
  | [] => 0
  | x :: r => uptoBulkEntry x + uptoBulkEntries r
def uptoBulkEntry {H : Type} : Lit × DataW H → Nat
  | (.string bytes, d) => bytes.length + uptoBulk d + 1
  | (_, d) => uptoBulk d + 1
 end
def uptoSmall : (H : Type) → List (DataW H) → Bool := fun _ ds => decide (uptoBulkAll ds ≤ 1048576)
def OpenSpec.upto (s : _root_.Go.ChangeSpec) : _root_.Go.OpenSpec := { _root_.Go.OpenSpec.ofChange s with cond := some uptoSmall }

/-- 'stencillaw4.HtmlTexts', WHERE WHAT IT READS IS OF BULK AT MOST 1048576: true; the input reads as it did. -/
def htmlTextsUptoRow : OpenClaim := { program := "ytbkfmhahbcodkaa", sum := "732d9cdd3e24bdb71e57a7bba94776197887f41b093b577e39eccd6edb571e77", func := "stencil/stencillaw4.HtmlTexts", spec := "htmlTexts", inPlace := ["internal/abi.NoEscape"], apart := false, narrowed := true }
def HtmlTextsUptoSaid : Prop := htmlTextsUptoRow.holds Try.pinned (OpenSpec.upto htmlTextsSpec)

/-- 'stencillaw4.HtmlPlains', WHERE WHAT IT READS IS OF BULK AT MOST 1048576: true; the input reads as it did. -/
def htmlPlainsUptoRow : OpenClaim := { program := "ytbkfmhahbcodkaa", sum := "732d9cdd3e24bdb71e57a7bba94776197887f41b093b577e39eccd6edb571e77", func := "stencil/stencillaw4.HtmlPlains", spec := "htmlPlains", inPlace := ["internal/abi.NoEscape"], apart := false, narrowed := true }
def HtmlPlainsUptoSaid : Prop := htmlPlainsUptoRow.holds Try.pinned (OpenSpec.upto htmlPlainsSpec)

/-- 'stencillaw4.HtmlBack', WHERE WHAT IT READS IS OF BULK AT MOST 1048576: true; the input reads as it did. -/
def htmlBackUptoRow : OpenClaim := { program := "ytbkfmhahbcodkaa", sum := "732d9cdd3e24bdb71e57a7bba94776197887f41b093b577e39eccd6edb571e77", func := "stencil/stencillaw4.HtmlBack", spec := "htmlBack", inPlace := ["internal/abi.NoEscape"], apart := false, narrowed := true }
def HtmlBackUptoSaid : Prop := htmlBackUptoRow.holds Try.pinned (OpenSpec.upto htmlBackSpec)

end Rows
end Go.Proofs.Ytbkfmhahbcodkaa
