/- What the rules for strings.Builder ask of this program. -/
import Derived.Test.YtnjpbbiolngfkaaDoorA
import Derived.Test.YtnjpbbiolngfkaaDoorStS20
import Derived.Test.YtnjpbbiolngfkaaDoorRows
namespace Go.Proofs.YtnjpbbiolngfkaaDoor
open Go.St Go.Shelf Go.Proofs

def ren : Ren := ⟨fun  | n => n, fun | 46 => 99 | 51 => 96 | 0 => 0 | 3 => 3 | 4 => 4 | 5 => 5 | 9 => 9 | 20 => 20 | 80 => 116 | 127 => 126 | 164 => 131 | n => n, fun | n => n⟩
set_option maxRecDepth 100000 in
theorem prims (w0 : World) : PrimOk Tryd.prog ap w0 := primOk_of fun f p hp => by
  have h := assoc_mem hp
  have e : ap.prims = [] := by kernel_rfl
  rw [e] at h
  cases h
theorem tabOk : TabOk Tryd.prog ap := tabOk_of (by kernel_rfl)
theorem eqsOk : EqsOk Tryd.prog ap := eqsOk_of (by kernel_rfl)
theorem fnsOk : FnsOk Tryd.prog ap :=
  fns_cons Tryd.func3 (by kernel_rfl) <|
  fns_cons Tryd.func4 (by kernel_rfl) <|
  fns_cons Tryd.func6 (by kernel_rfl) <|
  fns_cons Tryd.func7 (by kernel_rfl) <|
  fns_cons Tryd.func9 (by kernel_rfl) <|
  fns_cons Tryd.func12 (by kernel_rfl) <|
  fns_cons Tryd.func15 (by kernel_rfl) <|
  fns_cons Tryd.func20 (by kernel_rfl) <|
  fns_cons Tryd.func21 (by kernel_rfl) <|
  fns_cons Tryd.func22 (by kernel_rfl) <|
  fns_cons Tryd.func25 (by kernel_rfl) <|
  fns_cons Tryd.func26 (by kernel_rfl) <|
  fns_cons Tryd.func27 (by kernel_rfl) <|
  fns_cons Tryd.func5 (by kernel_rfl) <|
  fns_cons Tryd.func8 (by kernel_rfl) <|
  fns_cons Tryd.func10 (by kernel_rfl) <|
  fns_cons Tryd.func11 (by kernel_rfl) <|
  fns_cons Tryd.func13 (by kernel_rfl) <|
  fns_cons Tryd.func14 (by kernel_rfl) <|
  fns_cons Tryd.func16 (by kernel_rfl) <|
  fns_cons Tryd.func17 (by kernel_rfl) <|
  fns_cons Tryd.func19 (by kernel_rfl) <|
  fns_cons Tryd.func23 (by kernel_rfl) <|
  fns_cons Tryd.func18 (by kernel_rfl) <|
  fns_cons Tryd.func24 (by kernel_rfl) <|
  fns_cons Tryd.func28 (by kernel_rfl) <|
  fns_cons Tryd.func29 (by kernel_rfl) <|
  fns_cons Tryd.func30 (by kernel_rfl) <|
  fns_cons Tryd.func31 (by kernel_rfl) <|
  fns_cons Tryd.func32 (by kernel_rfl) <|
  fns_cons Tryd.func33 (by kernel_rfl) <|
  fns_cons Tryd.func34 (by kernel_rfl) <|
  fns_cons Tryd.func36 (by kernel_rfl) <|
  fns_cons Tryd.func37 (by kernel_rfl) <|
  fns_cons Tryd.func38 (by kernel_rfl) <|
  fns_cons Tryd.func39 (by kernel_rfl) <|
  fns_cons Tryd.func40 (by kernel_rfl) <|
  fns_cons Tryd.func41 (by kernel_rfl) <|
  fns_cons Tryd.func35 (by kernel_rfl) <|
  fns_cons Tryd.func42 (by kernel_rfl) <|
  fns_cons Tryd.func43 (by kernel_rfl) <|
  fns_cons Tryd.func44 (by kernel_rfl) <|
  fns_cons Tryd.func45 (by kernel_rfl) <|
  fns_cons Tryd.func51 (by kernel_rfl) <|
  fns_cons Tryd.func52 (by kernel_rfl) <|
  fns_cons Tryd.func46 (by kernel_rfl) <|
  fns_cons Tryd.func47 (by kernel_rfl) <|
  fns_cons Tryd.func48 (by kernel_rfl) <|
  fns_cons Tryd.func49 (by kernel_rfl) <|
  fns_cons Tryd.func50 (by kernel_rfl) <|
  fns_cons Tryd.func54 (by kernel_rfl) <|
  fns_cons Tryd.func53 (by kernel_rfl) <|
  fns_cons Tryd.func57 (by kernel_rfl) <|
  fns_cons Tryd.func55 (by kernel_rfl) <|
  fns_cons Tryd.func56 (by kernel_rfl) <|
  fns_cons Tryd.func58 (by kernel_rfl) <|
  fns_cons Tryd.func59 (by kernel_rfl) <|
  fns_cons Tryd.func60 (by kernel_rfl) <|
  fns_nil
theorem bldOk : BldOk Tryd.prog ap := bldOk_none (by kernel_rfl)
set_option maxRecDepth 100000 in
theorem sound (w0 : World) : Sound Tryd.prog ap w0 := ⟨tabOk, eqsOk, fnsOk, prims w0, bldOk, fun h => by kernel_rfl⟩
theorem globs {W : World} (h : laidMet Tryd.prog [("unicode/utf8.acceptRanges", Rows.laid_unicode_utf8_acceptRanges), ("unicode.White_Space", Rows.laid_unicode_White_Space), ("strings.asciiSpace", Rows.laid_strings_asciiSpace), ("unicode/utf8.first", Rows.laid_unicode_utf8_first)] W) : GlobsR ap (Gh.start W) := by
  intro g cs hg
  have hm := assoc_mem hg
  simp only [ap, List.mem_cons, List.not_mem_nil, or_false, Prod.mk.injEq] at hm
  rcases hm with ⟨rfl, rfl⟩ | ⟨rfl, rfl⟩ | ⟨rfl, rfl⟩ | ⟨rfl, rfl⟩
  · exact glob_of tabOk (ts := [102, 101, 5, 98, 106, 103, 109, 107, 104, 112, 96, 3, 90]) (by kernel_rfl) h (name := "unicode/utf8.acceptRanges") (d := Rows.laid_unicode_utf8_acceptRanges) List.mem_cons_self (by kernel_rfl) (by kernel_rfl) (t := 102) (by decide) (N := 8) (by kernel_rfl)
  · exact glob_of tabOk (ts := [102, 101, 5, 98, 106, 103, 109, 107, 104, 112, 96, 3, 90]) (by kernel_rfl) h (name := "unicode.White_Space") (d := Rows.laid_unicode_White_Space) (List.mem_cons_of_mem _ (List.mem_cons_self)) (by kernel_rfl) (by kernel_rfl) (t := 98) (by decide) (N := 8) (by kernel_rfl)
  · exact glob_of tabOk (ts := [102, 101, 5, 98, 106, 103, 109, 107, 104, 112, 96, 3, 90]) (by kernel_rfl) h (name := "strings.asciiSpace") (d := Rows.laid_strings_asciiSpace) (List.mem_cons_of_mem _ (List.mem_cons_of_mem _ (List.mem_cons_self))) (by kernel_rfl) (by kernel_rfl) (t := 90) (by decide) (N := 8) (by kernel_rfl)
  · exact glob_of tabOk (ts := [102, 101, 5, 98, 106, 103, 109, 107, 104, 112, 96, 3, 90]) (by kernel_rfl) h (name := "unicode/utf8.first") (d := Rows.laid_unicode_utf8_first) (List.mem_cons_of_mem _ (List.mem_cons_of_mem _ (List.mem_cons_of_mem _ (List.mem_cons_self)))) (by kernel_rfl) (by kernel_rfl) (t := 90) (by decide) (N := 8) (by kernel_rfl)
end Go.Proofs.YtnjpbbiolngfkaaDoor
