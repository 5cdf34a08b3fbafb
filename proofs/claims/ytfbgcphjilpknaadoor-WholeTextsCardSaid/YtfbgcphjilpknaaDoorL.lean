/- What the rules for strings.Builder ask of this program. -/
import Derived.Test.YtfbgcphjilpknaaDoorA
import Derived.Test.YtfbgcphjilpknaaDoorStS20
import Derived.Test.YtfbgcphjilpknaaDoorRows
import Derived.Test.YtfbgcphjilpknaaDoorStS24
import Derived.Shelf.Lay
import Derived.Ground.NamesProg
namespace Go.Proofs.YtfbgcphjilpknaaDoor
open Go.St Go.Shelf Go.Proofs

def ren : Ren := ⟨fun  | n => n, fun | 46 => 54 | 51 => 43 | 0 => 0 | 3 => 3 | 4 => 4 | 5 => 5 | 9 => 9 | 20 => 20 | 37 => 52 | 75 => 49 | 80 => 89 | 127 => 77 | 164 => 103 | n => n, fun | n => n⟩
shelf_lay LaysM.n171 Nm 171 at Tryd as laysM171
theorem tab10 {w0 : World} (hL : laidMet Tryd.prog [("math/bits.deBruijn32tab", Rows.laid_math_bits_deBruijn32tab), ("math/bits.deBruijn64tab", Rows.laid_math_bits_deBruijn64tab), ("internal/strconv.uint64pow10", Rows.laid_internal_strconv_uint64pow10), ("strconv.ErrRange", Rows.laid_strconv_ErrRange), ("strconv.ErrSyntax", Rows.laid_strconv_ErrSyntax)] w0) : Lib.TabIs Tryd.prog w0 "internal/strconv.uint64pow10" .u64 Lib.pow10Tab :=
  var_tab hL (show ("internal/strconv.uint64pow10", Lib.tabData .u64 Lib.pow10Tab) ∈ ([("math/bits.deBruijn32tab", Rows.laid_math_bits_deBruijn32tab), ("math/bits.deBruijn64tab", Rows.laid_math_bits_deBruijn64tab), ("internal/strconv.uint64pow10", Rows.laid_internal_strconv_uint64pow10), ("strconv.ErrRange", Rows.laid_strconv_ErrRange), ("strconv.ErrSyntax", Rows.laid_strconv_ErrSyntax)] : List (String × DataW Unit)) from (List.mem_cons_of_mem _ (List.mem_cons_of_mem _ (List.mem_cons_self)))) (g := 2) (by kernel_rfl) (by kernel_rfl) Tryd.underlying83 Tryd.underlying44 (by kernel_rfl) (by kernel_rfl)
shelf_lay LaysC.n172 Nm 172 at Tryd as laysC172
theorem errSyntax {w0 : World} (hL : laidMet Tryd.prog [("math/bits.deBruijn32tab", Rows.laid_math_bits_deBruijn32tab), ("math/bits.deBruijn64tab", Rows.laid_math_bits_deBruijn64tab), ("internal/strconv.uint64pow10", Rows.laid_internal_strconv_uint64pow10), ("strconv.ErrRange", Rows.laid_strconv_ErrRange), ("strconv.ErrSyntax", Rows.laid_strconv_ErrSyntax)] w0) : ∃ tp p, w0.var? Tryd.prog "strconv.ErrSyntax" = some #[.iface tp p] :=
  var_iface hL (d := _) (List.mem_cons_of_mem _ (List.mem_cons_of_mem _ (List.mem_cons_of_mem _ (List.mem_cons_of_mem _ (List.mem_cons_self))))) (g := 0) (by kernel_rfl) (by kernel_rfl) Tryd.underlying49
theorem errRange {w0 : World} (hL : laidMet Tryd.prog [("math/bits.deBruijn32tab", Rows.laid_math_bits_deBruijn32tab), ("math/bits.deBruijn64tab", Rows.laid_math_bits_deBruijn64tab), ("internal/strconv.uint64pow10", Rows.laid_internal_strconv_uint64pow10), ("strconv.ErrRange", Rows.laid_strconv_ErrRange), ("strconv.ErrSyntax", Rows.laid_strconv_ErrSyntax)] w0) : ∃ tp p, w0.var? Tryd.prog "strconv.ErrRange" = some #[.iface tp p] :=
  var_iface hL (d := _) (List.mem_cons_of_mem _ (List.mem_cons_of_mem _ (List.mem_cons_of_mem _ (List.mem_cons_self)))) (g := 1) (by kernel_rfl) (by kernel_rfl) Tryd.underlying49
theorem prims (w0 : World) (hL : laidMet Tryd.prog [("math/bits.deBruijn32tab", Rows.laid_math_bits_deBruijn32tab), ("math/bits.deBruijn64tab", Rows.laid_math_bits_deBruijn64tab), ("internal/strconv.uint64pow10", Rows.laid_internal_strconv_uint64pow10), ("strconv.ErrRange", Rows.laid_strconv_ErrRange), ("strconv.ErrSyntax", Rows.laid_strconv_ErrSyntax)] w0) : PrimOk Tryd.prog ap w0 := primOk_of fun f p hp => by
  have h := assoc_mem hp
  simp only [ap, List.mem_cons, List.not_mem_nil, or_false, Prod.mk.injEq] at h
  rcases h with ⟨rfl, rfl⟩ | ⟨rfl, rfl⟩
  · exact ⟨_, laysC172, rfl, rfl, errSyntax hL, errRange hL⟩
  · exact ⟨_, laysM171, rfl, tab10 hL⟩
theorem tabOk : TabOk Tryd.prog ap := tabOk_of (by kernel_rfl)
theorem eqsOk : EqsOk Tryd.prog ap := eqsOk_of (by kernel_rfl)
theorem fnsOk : FnsOk Tryd.prog ap :=
  fns_cons Tryd.func3 (by kernel_rfl) <|
  fns_cons Tryd.func4 (by kernel_rfl) <|
  fns_cons Tryd.func5 (by kernel_rfl) <|
  fns_cons Tryd.func6 (by kernel_rfl) <|
  fns_cons Tryd.func7 (by kernel_rfl) <|
  fns_cons Tryd.func8 (by kernel_rfl) <|
  fns_cons Tryd.func13 (by kernel_rfl) <|
  fns_cons Tryd.func9 (by kernel_rfl) <|
  fns_cons Tryd.func10 (by kernel_rfl) <|
  fns_cons Tryd.func11 (by kernel_rfl) <|
  fns_cons Tryd.func12 (by kernel_rfl) <|
  fns_cons Tryd.func14 (by kernel_rfl) <|
  fns_cons Tryd.func15 (by kernel_rfl) <|
  fns_cons Tryd.func16 (by kernel_rfl) <|
  fns_cons Tryd.func17 (by kernel_rfl) <|
  fns_cons Tryd.func18 (by kernel_rfl) <|
  fns_cons Tryd.func19 (by kernel_rfl) <|
  fns_cons Tryd.func20 (by kernel_rfl) <|
  fns_cons Tryd.func21 (by kernel_rfl) <|
  fns_cons Tryd.func22 (by kernel_rfl) <|
  fns_cons Tryd.func23 (by kernel_rfl) <|
  fns_cons Tryd.func24 (by kernel_rfl) <|
  fns_cons Tryd.func25 (by kernel_rfl) <|
  fns_cons Tryd.func26 (by kernel_rfl) <|
  fns_cons Tryd.func27 (by kernel_rfl) <|
  fns_cons Tryd.func28 (by kernel_rfl) <|
  fns_cons Tryd.func29 (by kernel_rfl) <|
  fns_cons Tryd.func30 (by kernel_rfl) <|
  fns_cons Tryd.func31 (by kernel_rfl) <|
  fns_cons Tryd.func32 (by kernel_rfl) <|
  fns_cons Tryd.func33 (by kernel_rfl) <|
  fns_cons Tryd.func34 (by kernel_rfl) <|
  fns_cons Tryd.func35 (by kernel_rfl) <|
  fns_cons Tryd.func36 (by kernel_rfl) <|
  fns_cons Tryd.func39 (by kernel_rfl) <|
  fns_cons Tryd.func41 (by kernel_rfl) <|
  fns_cons Tryd.func40 (by kernel_rfl) <|
  fns_nil
theorem bldOk : BldOk Tryd.prog ap := bldOk_none (by kernel_rfl)
theorem sound (w0 : World) (hL : laidMet Tryd.prog [("math/bits.deBruijn32tab", Rows.laid_math_bits_deBruijn32tab), ("math/bits.deBruijn64tab", Rows.laid_math_bits_deBruijn64tab), ("internal/strconv.uint64pow10", Rows.laid_internal_strconv_uint64pow10), ("strconv.ErrRange", Rows.laid_strconv_ErrRange), ("strconv.ErrSyntax", Rows.laid_strconv_ErrSyntax)] w0) : Sound Tryd.prog ap w0 := ⟨tabOk, eqsOk, fnsOk, prims w0 hL, bldOk, fun h => by kernel_rfl⟩
theorem globs {W : World} (h : laidMet Tryd.prog [("math/bits.deBruijn32tab", Rows.laid_math_bits_deBruijn32tab), ("math/bits.deBruijn64tab", Rows.laid_math_bits_deBruijn64tab), ("internal/strconv.uint64pow10", Rows.laid_internal_strconv_uint64pow10), ("strconv.ErrRange", Rows.laid_strconv_ErrRange), ("strconv.ErrSyntax", Rows.laid_strconv_ErrSyntax)] W) : GlobsR ap (Gh.start W) := by
  intro g cs hg
  have hm := assoc_mem hg
  simp only [ap, List.mem_cons, List.not_mem_nil, or_false, Prod.mk.injEq] at hm
  rcases hm with ⟨rfl, rfl⟩ | ⟨rfl, rfl⟩ | ⟨rfl, rfl⟩
  · exact glob_of tabOk (ts := [87, 5, 88, 83, 44]) (by kernel_rfl) h (name := "math/bits.deBruijn32tab") (d := Rows.laid_math_bits_deBruijn32tab) List.mem_cons_self (by kernel_rfl) (by kernel_rfl) (t := 87) (by decide) (N := 8) (by kernel_rfl)
  · exact glob_of tabOk (ts := [87, 5, 88, 83, 44]) (by kernel_rfl) h (name := "math/bits.deBruijn64tab") (d := Rows.laid_math_bits_deBruijn64tab) (List.mem_cons_of_mem _ (List.mem_cons_self)) (by kernel_rfl) (by kernel_rfl) (t := 88) (by decide) (N := 8) (by kernel_rfl)
  · exact glob_of tabOk (ts := [87, 5, 88, 83, 44]) (by kernel_rfl) h (name := "internal/strconv.uint64pow10") (d := Rows.laid_internal_strconv_uint64pow10) (List.mem_cons_of_mem _ (List.mem_cons_of_mem _ (List.mem_cons_self))) (by kernel_rfl) (by kernel_rfl) (t := 83) (by decide) (N := 8) (by kernel_rfl)
end Go.Proofs.YtfbgcphjilpknaaDoor
