/- What the rules for strings.Builder ask of this program. -/
import Derived.Test.YtigdijdpggjpiaaDoorA
import Derived.Test.YtigdijdpggjpiaaDoorStS20
import Derived.Test.YtigdijdpggjpiaaDoorRows
namespace Go.Proofs.YtigdijdpggjpiaaDoor
open Go.St Go.Shelf Go.Proofs

def ren : Ren := ⟨fun | 143 => 43 | 217 => 63 | 219 => 56 | 224 => 65 | 225 => 64 | 266 => 67 | 267 => 66 | 314 => 68 | 166 => 39 | 167 => 40 | 169 => 41 | 240 => 55 | 276 => 62 | n => n, fun | 46 => 85 | 51 => 96 | 146 => 97 | 0 => 0 | 3 => 3 | 4 => 4 | 5 => 5 | 9 => 9 | 20 => 20 | 37 => 64 | 70 => 63 | 72 => 66 | 75 => 69 | 80 => 58 | 127 => 83 | 164 => 93 | n => n, fun | 1 => 2 | n => n⟩
theorem lays166 : Lays.n166 Tryd.prog ren := {
  mixed := rfl
  f166 := Tryd.func39.trans (by kernel_rfl)
  f240 := Tryd.func55.trans (by kernel_rfl)
  f276 := Tryd.func62.trans (by kernel_rfl)
  t0 := Tryd.underlying0
  a0 := Tryd.isAgg0
  z0 := Tryd.sizeOf0
  v0 := Tryd.zeroValue0
  t3 := Tryd.underlying3
  a3 := Tryd.isAgg3
  z3 := Tryd.sizeOf3
  v3 := Tryd.zeroValue3
  t4 := Tryd.underlying4
  a4 := Tryd.isAgg4
  z4 := Tryd.sizeOf4
  v4 := Tryd.zeroValue4
  t9 := Tryd.underlying9
  a9 := Tryd.isAgg9
  z9 := Tryd.sizeOf9
  v9 := Tryd.zeroValue9
  t20 := Tryd.underlying20
  a20 := Tryd.isAgg20
  z20 := Tryd.sizeOf20
  v20 := Tryd.zeroValue20
  t37 := Tryd.underlying64
  a37 := Tryd.isAgg64
  z37 := Tryd.sizeOf64
  v37 := Tryd.zeroValue64
  t70 := Tryd.underlying63
  a70 := Tryd.isAgg63
  z70 := Tryd.sizeOf63
  v70 := Tryd.zeroValue63
  t72 := Tryd.underlying66
  a72 := Tryd.isAgg66
  z72 := Tryd.sizeOf66
  v72 := Tryd.zeroValue66
  t75 := Tryd.underlying69
  a75 := Tryd.isAgg69
  z75 := Tryd.sizeOf69
  v75 := Tryd.zeroValue69
  t164 := Tryd.underlying93
  a164 := Tryd.isAgg93
  z164 := Tryd.sizeOf93
  v164 := Tryd.zeroValue93 }
theorem lays167 : Lays.n167 Tryd.prog ren := {
  mixed := rfl
  f167 := Tryd.func40.trans (by kernel_rfl)
  f240 := Tryd.func55.trans (by kernel_rfl)
  f276 := Tryd.func62.trans (by kernel_rfl)
  t0 := Tryd.underlying0
  a0 := Tryd.isAgg0
  z0 := Tryd.sizeOf0
  v0 := Tryd.zeroValue0
  t4 := Tryd.underlying4
  a4 := Tryd.isAgg4
  z4 := Tryd.sizeOf4
  v4 := Tryd.zeroValue4
  t5 := Tryd.underlying5
  a5 := Tryd.isAgg5
  z5 := Tryd.sizeOf5
  v5 := Tryd.zeroValue5
  t9 := Tryd.underlying9
  a9 := Tryd.isAgg9
  z9 := Tryd.sizeOf9
  v9 := Tryd.zeroValue9
  t20 := Tryd.underlying20
  a20 := Tryd.isAgg20
  z20 := Tryd.sizeOf20
  v20 := Tryd.zeroValue20
  t37 := Tryd.underlying64
  a37 := Tryd.isAgg64
  z37 := Tryd.sizeOf64
  v37 := Tryd.zeroValue64
  t70 := Tryd.underlying63
  a70 := Tryd.isAgg63
  z70 := Tryd.sizeOf63
  v70 := Tryd.zeroValue63
  t72 := Tryd.underlying66
  a72 := Tryd.isAgg66
  z72 := Tryd.sizeOf66
  v72 := Tryd.zeroValue66
  t75 := Tryd.underlying69
  a75 := Tryd.isAgg69
  z75 := Tryd.sizeOf69
  v75 := Tryd.zeroValue69
  t164 := Tryd.underlying93
  a164 := Tryd.isAgg93
  z164 := Tryd.sizeOf93
  v164 := Tryd.zeroValue93 }
theorem lays169 : Lays.n169 Tryd.prog ren := {
  mixed := rfl
  f169 := Tryd.func41.trans (by kernel_rfl)
  t0 := Tryd.underlying0
  a0 := Tryd.isAgg0
  z0 := Tryd.sizeOf0
  v0 := Tryd.zeroValue0
  t3 := Tryd.underlying3
  a3 := Tryd.isAgg3
  z3 := Tryd.sizeOf3
  v3 := Tryd.zeroValue3
  t9 := Tryd.underlying9
  a9 := Tryd.isAgg9
  z9 := Tryd.sizeOf9
  v9 := Tryd.zeroValue9
  t37 := Tryd.underlying64
  a37 := Tryd.isAgg64
  z37 := Tryd.sizeOf64
  v37 := Tryd.zeroValue64
  t70 := Tryd.underlying63
  a70 := Tryd.isAgg63
  z70 := Tryd.sizeOf63
  v70 := Tryd.zeroValue63
  t72 := Tryd.underlying66
  a72 := Tryd.isAgg66
  z72 := Tryd.sizeOf66
  v72 := Tryd.zeroValue66
  t127 := Tryd.underlying83
  a127 := Tryd.isAgg83
  z127 := Tryd.sizeOf83
  v127 := Tryd.zeroValue83 }
theorem lays143 : Lays.n143 Tryd.prog ren := {
  mixed := rfl
  f143 := Tryd.func43.trans (by kernel_rfl)
  f217 := Tryd.func63.trans (by kernel_rfl)
  f219 := Tryd.func56.trans (by kernel_rfl)
  f224 := Tryd.func65.trans (by kernel_rfl)
  f225 := Tryd.func64.trans (by kernel_rfl)
  f266 := Tryd.func67.trans (by kernel_rfl)
  f267 := Tryd.func66.trans (by kernel_rfl)
  f314 := Tryd.func68.trans (by kernel_rfl)
  t3 := Tryd.underlying3
  a3 := Tryd.isAgg3
  z3 := Tryd.sizeOf3
  v3 := Tryd.zeroValue3
  t4 := Tryd.underlying4
  a4 := Tryd.isAgg4
  z4 := Tryd.sizeOf4
  v4 := Tryd.zeroValue4
  t5 := Tryd.underlying5
  a5 := Tryd.isAgg5
  z5 := Tryd.sizeOf5
  v5 := Tryd.zeroValue5
  t9 := Tryd.underlying9
  a9 := Tryd.isAgg9
  z9 := Tryd.sizeOf9
  v9 := Tryd.zeroValue9
  t46 := Tryd.underlying85
  a46 := Tryd.isAgg85
  z46 := Tryd.sizeOf85
  v46 := Tryd.zeroValue85
  t51 := Tryd.underlying96
  a51 := Tryd.isAgg96
  z51 := Tryd.sizeOf96
  v51 := Tryd.zeroValue96
  t146 := Tryd.underlying97
  a146 := Tryd.isAgg97
  z146 := Tryd.sizeOf97
  v146 := Tryd.zeroValue97
  g1 := by kernel_rfl }
theorem lays217 : Lays.n217 Tryd.prog ren := {
  mixed := rfl
  f217 := Tryd.func63.trans (by kernel_rfl)
  f266 := Tryd.func67.trans (by kernel_rfl)
  t3 := Tryd.underlying3
  a3 := Tryd.isAgg3
  z3 := Tryd.sizeOf3
  v3 := Tryd.zeroValue3
  t5 := Tryd.underlying5
  a5 := Tryd.isAgg5
  z5 := Tryd.sizeOf5
  v5 := Tryd.zeroValue5
  t9 := Tryd.underlying9
  a9 := Tryd.isAgg9
  z9 := Tryd.sizeOf9
  v9 := Tryd.zeroValue9 }
theorem extra : Builder.Extra Tryd.prog ren := {
  sizeBuilder := by kernel_rfl
  liesBuilder := by kernel_rfl
  t5 := Tryd.underlying5
  a5 := Tryd.isAgg5
  z5 := Tryd.sizeOf5
  v5 := Tryd.zeroValue5
  infoByte := by kernel_rfl
  cellsByte := by kernel_rfl
  sizeByte := by kernel_rfl
  neB5 := by decide }
theorem bldLay : BldLay Tryd.prog ap ren := ⟨rfl, rfl, extra⟩
theorem prims (w0 : World) (hmx : ∃ m, w0.cell? ⟨2, 0, none⟩ = some (.int .i64 m)) : PrimOk Tryd.prog ap w0 := primOk_of fun f p hp => by
  have h := assoc_mem hp
  simp only [ap, List.mem_cons, List.not_mem_nil, or_false, Prod.mk.injEq] at h
  rcases h with ⟨rfl, rfl⟩ | ⟨rfl, rfl⟩ | ⟨rfl, rfl⟩ | ⟨rfl, rfl⟩ | ⟨rfl, rfl⟩
  · exact ⟨ren, bldLay, lays166, rfl⟩
  · exact ⟨ren, bldLay, lays167, rfl⟩
  · exact ⟨ren, bldLay, lays169, rfl⟩
  · exact ⟨ren, lays143, rfl, hmx⟩
  · exact ⟨ren, lays217, rfl⟩
theorem tabOk : TabOk Tryd.prog ap := tabOk_of (by kernel_rfl)
theorem eqsOk : EqsOk Tryd.prog ap := eqsOk_of (by kernel_rfl)
theorem fnsOk : FnsOk Tryd.prog ap :=
  fns_cons Tryd.func3 (by kernel_rfl) <|
  fns_cons Tryd.func4 (by kernel_rfl) <|
  fns_cons Tryd.func5 (by kernel_rfl) <|
  fns_cons Tryd.func6 (by kernel_rfl) <|
  fns_cons Tryd.func9 (by kernel_rfl) <|
  fns_cons Tryd.func10 (by kernel_rfl) <|
  fns_cons Tryd.func11 (by kernel_rfl) <|
  fns_cons Tryd.func7 (by kernel_rfl) <|
  fns_cons Tryd.func8 (by kernel_rfl) <|
  fns_cons Tryd.func12 (by kernel_rfl) <|
  fns_cons Tryd.func13 (by kernel_rfl) <|
  fns_cons Tryd.func14 (by kernel_rfl) <|
  fns_cons Tryd.func15 (by kernel_rfl) <|
  fns_cons Tryd.func16 (by kernel_rfl) <|
  fns_cons Tryd.func17 (by kernel_rfl) <|
  fns_cons Tryd.func18 (by kernel_rfl) <|
  fns_cons Tryd.func19 (by kernel_rfl) <|
  fns_cons Tryd.func20 (by kernel_rfl) <|
  fns_cons Tryd.func21 (by kernel_rfl) <|
  fns_cons Tryd.func22 (by kernel_rfl) <|
  fns_cons Tryd.func23 (by kernel_rfl) <|
  fns_cons Tryd.func24 (by kernel_rfl) <|
  fns_cons Tryd.func25 (by kernel_rfl) <|
  fns_cons Tryd.func26 (by kernel_rfl) <|
  fns_cons Tryd.func31 (by kernel_rfl) <|
  fns_cons Tryd.func32 (by kernel_rfl) <|
  fns_cons Tryd.func33 (by kernel_rfl) <|
  fns_cons Tryd.func34 (by kernel_rfl) <|
  fns_cons Tryd.func35 (by kernel_rfl) <|
  fns_cons Tryd.func36 (by kernel_rfl) <|
  fns_cons Tryd.func37 (by kernel_rfl) <|
  fns_cons Tryd.func38 (by kernel_rfl) <|
  fns_cons Tryd.func42 (by kernel_rfl) <|
  fns_cons Tryd.func27 (by kernel_rfl) <|
  fns_cons Tryd.func28 (by kernel_rfl) <|
  fns_cons Tryd.func29 (by kernel_rfl) <|
  fns_cons Tryd.func30 (by kernel_rfl) <|
  fns_cons Tryd.func51 (by kernel_rfl) <|
  fns_cons Tryd.func52 (by kernel_rfl) <|
  fns_cons Tryd.func53 (by kernel_rfl) <|
  fns_cons Tryd.func54 (by kernel_rfl) <|
  fns_cons Tryd.func44 (by kernel_rfl) <|
  fns_cons Tryd.func45 (by kernel_rfl) <|
  fns_cons Tryd.func46 (by kernel_rfl) <|
  fns_cons Tryd.func47 (by kernel_rfl) <|
  fns_cons Tryd.func48 (by kernel_rfl) <|
  fns_cons Tryd.func49 (by kernel_rfl) <|
  fns_cons Tryd.func50 (by kernel_rfl) <|
  fns_cons Tryd.func60 (by kernel_rfl) <|
  fns_cons Tryd.func61 (by kernel_rfl) <|
  fns_cons Tryd.func57 (by kernel_rfl) <|
  fns_cons Tryd.func58 (by kernel_rfl) <|
  fns_cons Tryd.func59 (by kernel_rfl) <|
  fns_nil
theorem bldOk : BldOk Tryd.prog ap := bldOk_of (by kernel_rfl)
theorem sound (w0 : World) (hmx : ∃ m, w0.cell? ⟨2, 0, none⟩ = some (.int .i64 m)) : Sound Tryd.prog ap w0 := ⟨tabOk, eqsOk, fnsOk, prims w0 hmx, bldOk, fun h => by kernel_rfl⟩
theorem globs {W : World} (h : laidMet Tryd.prog [("unicode/utf8.acceptRanges", Rows.laid_unicode_utf8_acceptRanges), ("unicode/utf8.first", Rows.laid_unicode_utf8_first)] W) : GlobsR ap (Gh.start W) := by
  intro g cs hg
  have hm := assoc_mem hg
  simp only [ap, List.mem_cons, List.not_mem_nil, or_false, Prod.mk.injEq] at hm
  rcases hm with ⟨rfl, rfl⟩ | ⟨rfl, rfl⟩
  · exact glob_of tabOk (ts := [88, 87, 5, 84]) (by kernel_rfl) h (name := "unicode/utf8.acceptRanges") (d := Rows.laid_unicode_utf8_acceptRanges) List.mem_cons_self (by kernel_rfl) (by kernel_rfl) (t := 88) (by decide) (N := 8) (by kernel_rfl)
  · exact glob_of tabOk (ts := [88, 87, 5, 84]) (by kernel_rfl) h (name := "unicode/utf8.first") (d := Rows.laid_unicode_utf8_first) (List.mem_cons_of_mem _ (List.mem_cons_self)) (by kernel_rfl) (by kernel_rfl) (t := 84) (by decide) (N := 8) (by kernel_rfl)
end Go.Proofs.YtigdijdpggjpiaaDoor
