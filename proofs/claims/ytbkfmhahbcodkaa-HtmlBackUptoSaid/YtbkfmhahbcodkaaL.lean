/- What the rules for strings.Builder ask of this program. -/
import Derived.Test.YtbkfmhahbcodkaaA
import Derived.Test.YtbkfmhahbcodkaaStS18
namespace Go.Proofs.Ytbkfmhahbcodkaa
open Go.St Go.Shelf Go.Proofs

def ren : Ren := ⟨fun | 166 => 21 | 167 => 16 | 169 => 19 | 240 => 22 | 276 => 24 | n => n, fun | 0 => 0 | 3 => 3 | 4 => 4 | 5 => 5 | 9 => 9 | 20 => 20 | 37 => 34 | 70 => 33 | 72 => 36 | 75 => 38 | 80 => 41 | 127 => 44 | 164 => 45 | n => n, fun n => n⟩
theorem lays166 : Lays.n166 Try.prog ren := {
  mixed := rfl
  f166 := Try.func21.trans (by kernel_rfl)
  f240 := Try.func22.trans (by kernel_rfl)
  f276 := Try.func24.trans (by kernel_rfl)
  t0 := Try.underlying0
  a0 := Try.isAgg0
  z0 := Try.sizeOf0
  v0 := Try.zeroValue0
  t3 := Try.underlying3
  a3 := Try.isAgg3
  z3 := Try.sizeOf3
  v3 := Try.zeroValue3
  t4 := Try.underlying4
  a4 := Try.isAgg4
  z4 := Try.sizeOf4
  v4 := Try.zeroValue4
  t9 := Try.underlying9
  a9 := Try.isAgg9
  z9 := Try.sizeOf9
  v9 := Try.zeroValue9
  t20 := Try.underlying20
  a20 := Try.isAgg20
  z20 := Try.sizeOf20
  v20 := Try.zeroValue20
  t37 := Try.underlying34
  a37 := Try.isAgg34
  z37 := Try.sizeOf34
  v37 := Try.zeroValue34
  t70 := Try.underlying33
  a70 := Try.isAgg33
  z70 := Try.sizeOf33
  v70 := Try.zeroValue33
  t72 := Try.underlying36
  a72 := Try.isAgg36
  z72 := Try.sizeOf36
  v72 := Try.zeroValue36
  t75 := Try.underlying38
  a75 := Try.isAgg38
  z75 := Try.sizeOf38
  v75 := Try.zeroValue38
  t164 := Try.underlying45
  a164 := Try.isAgg45
  z164 := Try.sizeOf45
  v164 := Try.zeroValue45 }
theorem lays167 : Lays.n167 Try.prog ren := {
  mixed := rfl
  f167 := Try.func16.trans (by kernel_rfl)
  f240 := Try.func22.trans (by kernel_rfl)
  f276 := Try.func24.trans (by kernel_rfl)
  t0 := Try.underlying0
  a0 := Try.isAgg0
  z0 := Try.sizeOf0
  v0 := Try.zeroValue0
  t4 := Try.underlying4
  a4 := Try.isAgg4
  z4 := Try.sizeOf4
  v4 := Try.zeroValue4
  t5 := Try.underlying5
  a5 := Try.isAgg5
  z5 := Try.sizeOf5
  v5 := Try.zeroValue5
  t9 := Try.underlying9
  a9 := Try.isAgg9
  z9 := Try.sizeOf9
  v9 := Try.zeroValue9
  t20 := Try.underlying20
  a20 := Try.isAgg20
  z20 := Try.sizeOf20
  v20 := Try.zeroValue20
  t37 := Try.underlying34
  a37 := Try.isAgg34
  z37 := Try.sizeOf34
  v37 := Try.zeroValue34
  t70 := Try.underlying33
  a70 := Try.isAgg33
  z70 := Try.sizeOf33
  v70 := Try.zeroValue33
  t72 := Try.underlying36
  a72 := Try.isAgg36
  z72 := Try.sizeOf36
  v72 := Try.zeroValue36
  t75 := Try.underlying38
  a75 := Try.isAgg38
  z75 := Try.sizeOf38
  v75 := Try.zeroValue38
  t164 := Try.underlying45
  a164 := Try.isAgg45
  z164 := Try.sizeOf45
  v164 := Try.zeroValue45 }
theorem lays169 : Lays.n169 Try.prog ren := {
  mixed := rfl
  f169 := Try.func19.trans (by kernel_rfl)
  t0 := Try.underlying0
  a0 := Try.isAgg0
  z0 := Try.sizeOf0
  v0 := Try.zeroValue0
  t3 := Try.underlying3
  a3 := Try.isAgg3
  z3 := Try.sizeOf3
  v3 := Try.zeroValue3
  t9 := Try.underlying9
  a9 := Try.isAgg9
  z9 := Try.sizeOf9
  v9 := Try.zeroValue9
  t37 := Try.underlying34
  a37 := Try.isAgg34
  z37 := Try.sizeOf34
  v37 := Try.zeroValue34
  t70 := Try.underlying33
  a70 := Try.isAgg33
  z70 := Try.sizeOf33
  v70 := Try.zeroValue33
  t72 := Try.underlying36
  a72 := Try.isAgg36
  z72 := Try.sizeOf36
  v72 := Try.zeroValue36
  t127 := Try.underlying44
  a127 := Try.isAgg44
  z127 := Try.sizeOf44
  v127 := Try.zeroValue44 }
theorem extra : Builder.Extra Try.prog ren := {
  sizeBuilder := by kernel_rfl
  liesBuilder := by kernel_rfl
  t5 := Try.underlying5
  a5 := Try.isAgg5
  z5 := Try.sizeOf5
  v5 := Try.zeroValue5
  infoByte := by kernel_rfl
  cellsByte := by kernel_rfl
  sizeByte := by kernel_rfl
  neB5 := by decide }
theorem bldLay : BldLay Try.prog ap ren := ⟨rfl, rfl, extra⟩
theorem prims (w0 : World) : PrimOk Try.prog ap w0 := primOk_of fun f p hp => by
  have h := assoc_mem hp
  simp only [ap, List.mem_cons, List.not_mem_nil, or_false, Prod.mk.injEq] at h
  rcases h with ⟨rfl, rfl⟩ | ⟨rfl, rfl⟩ | ⟨rfl, rfl⟩
  · exact ⟨ren, bldLay, lays167, rfl⟩
  · exact ⟨ren, bldLay, lays169, rfl⟩
  · exact ⟨ren, bldLay, lays166, rfl⟩
theorem tabOk : TabOk Try.prog ap := tabOk_of (by kernel_rfl)
theorem eqsOk : EqsOk Try.prog ap := eqsOk_of (by kernel_rfl)
theorem fnsOk : FnsOk Try.prog ap :=
  fns_cons Try.func3 (by kernel_rfl) <|
  fns_cons Try.func4 (by kernel_rfl) <|
  fns_cons Try.func5 (by kernel_rfl) <|
  fns_cons Try.func13 (by kernel_rfl) <|
  fns_cons Try.func6 (by kernel_rfl) <|
  fns_cons Try.func7 (by kernel_rfl) <|
  fns_cons Try.func8 (by kernel_rfl) <|
  fns_cons Try.func9 (by kernel_rfl) <|
  fns_cons Try.func10 (by kernel_rfl) <|
  fns_cons Try.func11 (by kernel_rfl) <|
  fns_cons Try.func12 (by kernel_rfl) <|
  fns_cons Try.func14 (by kernel_rfl) <|
  fns_cons Try.func15 (by kernel_rfl) <|
  fns_cons Try.func17 (by kernel_rfl) <|
  fns_cons Try.func18 (by kernel_rfl) <|
  fns_cons Try.func20 (by kernel_rfl) <|
  fns_cons Try.func23 (by kernel_rfl) <|
  fns_nil
theorem bldOk : BldOk Try.prog ap := bldOk_of (by kernel_rfl)
theorem sound (w0 : World) : Sound Try.prog ap w0 := ⟨tabOk, eqsOk, fnsOk, prims w0, bldOk, fun h => (by cases h), fun h => (by cases h)⟩
end Go.Proofs.Ytbkfmhahbcodkaa
