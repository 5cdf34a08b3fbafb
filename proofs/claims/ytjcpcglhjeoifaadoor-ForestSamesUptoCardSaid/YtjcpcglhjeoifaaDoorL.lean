/- What the rules for strings.Builder ask of this program. -/
import Derived.Test.YtjcpcglhjeoifaaDoorA
import Derived.Test.YtjcpcglhjeoifaaDoorStS20
import Derived.Test.YtjcpcglhjeoifaaDoorRows
namespace Go.Proofs.YtjcpcglhjeoifaaDoor
open Go.St Go.Shelf Go.Proofs

def ren : Ren := ⟨fun | 166 => 40 | 167 => 41 | 169 => 29 | 240 => 51 | 276 => 58 | n => n, fun | 0 => 0 | 3 => 3 | 4 => 4 | 5 => 5 | 9 => 9 | 20 => 20 | 37 => 48 | 70 => 47 | 72 => 50 | 75 => 67 | 80 => 52 | 127 => 71 | 164 => 77 | n => n, fun n => n⟩
theorem lays166 : Lays.n166 Tryd.prog ren := {
  mixed := rfl
  f166 := Tryd.func40.trans (by kernel_rfl)
  f240 := Tryd.func51.trans (by kernel_rfl)
  f276 := Tryd.func58.trans (by kernel_rfl)
  t0 := Tryd.underlying0
  a0 := Tryd.isAgg0
  z0 := Tryd.sizeOf0
  v0 := Tryd.zeroValue0
  t3 := Tryd.underlying3
  a3 := Tryd.isAgg3
  z3 := Tryd.sizeOf3
  v3 := Tryd.zeroValue3
  t4 := Tryd.underlying4
  a4 := Tryd.isAgg4
  z4 := Tryd.sizeOf4
  v4 := Tryd.zeroValue4
  t9 := Tryd.underlying9
  a9 := Tryd.isAgg9
  z9 := Tryd.sizeOf9
  v9 := Tryd.zeroValue9
  t20 := Tryd.underlying20
  a20 := Tryd.isAgg20
  z20 := Tryd.sizeOf20
  v20 := Tryd.zeroValue20
  t37 := Tryd.underlying48
  a37 := Tryd.isAgg48
  z37 := Tryd.sizeOf48
  v37 := Tryd.zeroValue48
  t70 := Tryd.underlying47
  a70 := Tryd.isAgg47
  z70 := Tryd.sizeOf47
  v70 := Tryd.zeroValue47
  t72 := Tryd.underlying50
  a72 := Tryd.isAgg50
  z72 := Tryd.sizeOf50
  v72 := Tryd.zeroValue50
  t75 := Tryd.underlying67
  a75 := Tryd.isAgg67
  z75 := Tryd.sizeOf67
  v75 := Tryd.zeroValue67
  t164 := Tryd.underlying77
  a164 := Tryd.isAgg77
  z164 := Tryd.sizeOf77
  v164 := Tryd.zeroValue77 }
theorem lays167 : Lays.n167 Tryd.prog ren := {
  mixed := rfl
  f167 := Tryd.func41.trans (by kernel_rfl)
  f240 := Tryd.func51.trans (by kernel_rfl)
  f276 := Tryd.func58.trans (by kernel_rfl)
  t0 := Tryd.underlying0
  a0 := Tryd.isAgg0
  z0 := Tryd.sizeOf0
  v0 := Tryd.zeroValue0
  t4 := Tryd.underlying4
  a4 := Tryd.isAgg4
  z4 := Tryd.sizeOf4
  v4 := Tryd.zeroValue4
  t5 := Tryd.underlying5
  a5 := Tryd.isAgg5
  z5 := Tryd.sizeOf5
  v5 := Tryd.zeroValue5
  t9 := Tryd.underlying9
  a9 := Tryd.isAgg9
  z9 := Tryd.sizeOf9
  v9 := Tryd.zeroValue9
  t20 := Tryd.underlying20
  a20 := Tryd.isAgg20
  z20 := Tryd.sizeOf20
  v20 := Tryd.zeroValue20
  t37 := Tryd.underlying48
  a37 := Tryd.isAgg48
  z37 := Tryd.sizeOf48
  v37 := Tryd.zeroValue48
  t70 := Tryd.underlying47
  a70 := Tryd.isAgg47
  z70 := Tryd.sizeOf47
  v70 := Tryd.zeroValue47
  t72 := Tryd.underlying50
  a72 := Tryd.isAgg50
  z72 := Tryd.sizeOf50
  v72 := Tryd.zeroValue50
  t75 := Tryd.underlying67
  a75 := Tryd.isAgg67
  z75 := Tryd.sizeOf67
  v75 := Tryd.zeroValue67
  t164 := Tryd.underlying77
  a164 := Tryd.isAgg77
  z164 := Tryd.sizeOf77
  v164 := Tryd.zeroValue77 }
theorem lays169 : Lays.n169 Tryd.prog ren := {
  mixed := rfl
  f169 := Tryd.func29.trans (by kernel_rfl)
  t0 := Tryd.underlying0
  a0 := Tryd.isAgg0
  z0 := Tryd.sizeOf0
  v0 := Tryd.zeroValue0
  t3 := Tryd.underlying3
  a3 := Tryd.isAgg3
  z3 := Tryd.sizeOf3
  v3 := Tryd.zeroValue3
  t9 := Tryd.underlying9
  a9 := Tryd.isAgg9
  z9 := Tryd.sizeOf9
  v9 := Tryd.zeroValue9
  t37 := Tryd.underlying48
  a37 := Tryd.isAgg48
  z37 := Tryd.sizeOf48
  v37 := Tryd.zeroValue48
  t70 := Tryd.underlying47
  a70 := Tryd.isAgg47
  z70 := Tryd.sizeOf47
  v70 := Tryd.zeroValue47
  t72 := Tryd.underlying50
  a72 := Tryd.isAgg50
  z72 := Tryd.sizeOf50
  v72 := Tryd.zeroValue50
  t127 := Tryd.underlying71
  a127 := Tryd.isAgg71
  z127 := Tryd.sizeOf71
  v127 := Tryd.zeroValue71 }
theorem extra : Builder.Extra Tryd.prog ren := {
  sizeBuilder := by kernel_rfl
  liesBuilder := by kernel_rfl
  t5 := Tryd.underlying5
  a5 := Tryd.isAgg5
  z5 := Tryd.sizeOf5
  v5 := Tryd.zeroValue5
  infoByte := by kernel_rfl
  cellsByte := by kernel_rfl
  sizeByte := by kernel_rfl
  neB5 := by decide }
theorem bldLay : BldLay Tryd.prog ap ren := ⟨rfl, rfl, extra⟩
theorem prims (w0 : World) : PrimOk Tryd.prog ap w0 := primOk_of fun f p hp => by
  have h := assoc_mem hp
  simp only [ap, List.mem_cons, List.not_mem_nil, or_false, Prod.mk.injEq] at h
  rcases h with ⟨rfl, rfl⟩ | ⟨rfl, rfl⟩ | ⟨rfl, rfl⟩
  · exact ⟨ren, bldLay, lays169, rfl⟩
  · exact ⟨ren, bldLay, lays166, rfl⟩
  · exact ⟨ren, bldLay, lays167, rfl⟩
theorem tabOk : TabOk Tryd.prog ap := tabOk_of (by kernel_rfl)
theorem eqsOk : EqsOk Tryd.prog ap := eqsOk_of (by kernel_rfl)
theorem fnsOk : FnsOk Tryd.prog ap :=
  fns_cons Tryd.func3 (by kernel_rfl) <|
  fns_cons Tryd.func4 (by kernel_rfl) <|
  fns_cons Tryd.func5 (by kernel_rfl) <|
  fns_cons Tryd.func6 (by kernel_rfl) <|
  fns_cons Tryd.func7 (by kernel_rfl) <|
  fns_cons Tryd.func8 (by kernel_rfl) <|
  fns_cons Tryd.func14 (by kernel_rfl) <|
  fns_cons Tryd.func18 (by kernel_rfl) <|
  fns_cons Tryd.func22 (by kernel_rfl) <|
  fns_cons Tryd.func26 (by kernel_rfl) <|
  fns_cons Tryd.func33 (by kernel_rfl) <|
  fns_cons Tryd.func34 (by kernel_rfl) <|
  fns_cons Tryd.func36 (by kernel_rfl) <|
  fns_cons Tryd.func38 (by kernel_rfl) <|
  fns_cons Tryd.func45 (by kernel_rfl) <|
  fns_cons Tryd.func46 (by kernel_rfl) <|
  fns_cons Tryd.func47 (by kernel_rfl) <|
  fns_cons Tryd.func48 (by kernel_rfl) <|
  fns_cons Tryd.func9 (by kernel_rfl) <|
  fns_cons Tryd.func10 (by kernel_rfl) <|
  fns_cons Tryd.func11 (by kernel_rfl) <|
  fns_cons Tryd.func12 (by kernel_rfl) <|
  fns_cons Tryd.func13 (by kernel_rfl) <|
  fns_cons Tryd.func15 (by kernel_rfl) <|
  fns_cons Tryd.func16 (by kernel_rfl) <|
  fns_cons Tryd.func17 (by kernel_rfl) <|
  fns_cons Tryd.func19 (by kernel_rfl) <|
  fns_cons Tryd.func20 (by kernel_rfl) <|
  fns_cons Tryd.func21 (by kernel_rfl) <|
  fns_cons Tryd.func23 (by kernel_rfl) <|
  fns_cons Tryd.func24 (by kernel_rfl) <|
  fns_cons Tryd.func25 (by kernel_rfl) <|
  fns_cons Tryd.func27 (by kernel_rfl) <|
  fns_cons Tryd.func28 (by kernel_rfl) <|
  fns_cons Tryd.func30 (by kernel_rfl) <|
  fns_cons Tryd.func31 (by kernel_rfl) <|
  fns_cons Tryd.func32 (by kernel_rfl) <|
  fns_cons Tryd.func35 (by kernel_rfl) <|
  fns_cons Tryd.func37 (by kernel_rfl) <|
  fns_cons Tryd.func39 (by kernel_rfl) <|
  fns_cons Tryd.func42 (by kernel_rfl) <|
  fns_cons Tryd.func43 (by kernel_rfl) <|
  fns_cons Tryd.func44 (by kernel_rfl) <|
  fns_cons Tryd.func49 (by kernel_rfl) <|
  fns_cons Tryd.func50 (by kernel_rfl) <|
  fns_cons Tryd.func52 (by kernel_rfl) <|
  fns_cons Tryd.func53 (by kernel_rfl) <|
  fns_cons Tryd.func54 (by kernel_rfl) <|
  fns_cons Tryd.func55 (by kernel_rfl) <|
  fns_cons Tryd.func56 (by kernel_rfl) <|
  fns_cons Tryd.func57 (by kernel_rfl) <|
  fns_cons Tryd.func59 (by kernel_rfl) <|
  fns_cons Tryd.func60 (by kernel_rfl) <|
  fns_cons Tryd.func61 (by kernel_rfl) <|
  fns_cons Tryd.func62 (by kernel_rfl) <|
  fns_cons Tryd.func63 (by kernel_rfl) <|
  fns_cons Tryd.func64 (by kernel_rfl) <|
  fns_cons Tryd.func65 (by kernel_rfl) <|
  fns_cons Tryd.func66 (by kernel_rfl) <|
  fns_cons Tryd.func67 (by kernel_rfl) <|
  fns_cons Tryd.func68 (by kernel_rfl) <|
  fns_nil
theorem bldOk : BldOk Tryd.prog ap := bldOk_of (by kernel_rfl)
theorem sound (w0 : World) : Sound Tryd.prog ap w0 := ⟨tabOk, eqsOk, fnsOk, prims w0, bldOk, fun h => by kernel_rfl⟩
theorem globs {W : World} (h : laidMet Tryd.prog [("unicode/utf8.acceptRanges", Rows.laid_unicode_utf8_acceptRanges), ("unicode/utf8.first", Rows.laid_unicode_utf8_first)] W) : GlobsR ap (Gh.start W) := by
  intro g cs hg
  have hm := assoc_mem hg
  simp only [ap, List.mem_cons, List.not_mem_nil, or_false, Prod.mk.injEq] at hm
  rcases hm with ⟨rfl, rfl⟩ | ⟨rfl, rfl⟩
  · exact glob_of tabOk (ts := [91, 90, 5, 87]) (by kernel_rfl) h (name := "unicode/utf8.acceptRanges") (d := Rows.laid_unicode_utf8_acceptRanges) List.mem_cons_self (by kernel_rfl) (by kernel_rfl) (t := 91) (by decide) (N := 8) (by kernel_rfl)
  · exact glob_of tabOk (ts := [91, 90, 5, 87]) (by kernel_rfl) h (name := "unicode/utf8.first") (d := Rows.laid_unicode_utf8_first) (List.mem_cons_of_mem _ (List.mem_cons_self)) (by kernel_rfl) (by kernel_rfl) (t := 87) (by decide) (N := 8) (by kernel_rfl)
end Go.Proofs.YtjcpcglhjeoifaaDoor
