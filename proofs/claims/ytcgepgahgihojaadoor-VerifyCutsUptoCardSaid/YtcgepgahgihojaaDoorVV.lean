/- Programs: Verify. -/
import Derived.Test.YtcgepgahgihojaaDoorVL
namespace Go.Proofs.YtcgepgahgihojaaDoor
open Go.St Go.Lib
set_option linter.unusedVariables false
set_option linter.unusedSimpArgs false

/-! ### Lists -/
def firstBad (f : Nat → Bool) : Nat → Nat → Option Nat
  | 0, _ => none
  | m + 1, i => if f i = true then some i else firstBad f m (i + 1)
def tagOf : Fo → ByteArray
  | .nil => ⟨#[]⟩
  | .cons t _ _ _ _ => t
noncomputable def textBad (p : PrA) (i : Nat) : Bool := decide (16384 ≤ i) || !okT (p.texts.getD i ⟨#[]⟩)
def codeBad (p : PrA) (i : Nat) : Bool := decide (8192 ≤ i) || !decide (ckC (p.codes.getD i []) ((p.texts.length : Nat) : Int) 64 = 0)
noncomputable def statBad (p : PrA) (i : Nat) : Bool := decide (4096 ≤ i) || (decide (tagOf (nth p.statics i) = ⟨#[]⟩) || !decide ((look (nth p.statics i)).2.2 = 0))
noncomputable def statA (p : PrA) (m i : Nat) : Nat × Nat := match firstBad (statBad p) m i with | some j => (j, 2202) | none => (0, 0)
noncomputable def codeA (p : PrA) (m i : Nat) : Nat × Nat := match firstBad (codeBad p) m i with | some j => (j, 2201) | none => statA p p.statics.len 0
noncomputable def textA (p : PrA) (m i : Nat) : Nat × Nat := match firstBad (textBad p) m i with | some j => (j, 2200) | none => codeA p p.codes.length 0
noncomputable def listsA (p : PrA) : Nat × Nat := textA p p.texts.length 0

theorem stat_at {ts : Fo} {v : AV} (h : FoM ts v) {i : Nat} (hi : i < ts.len) : ∃ tag text a kd, ia 4 v (.int .i64 ((i : Nat) : Int)) = some (.ip [.str tag, .str text, a, kd]) ∧ tagOf (nth ts i) = tag ∧ a.isCell = true ∧ kd.isCell = true ∧ a.cells = [a] ∧ kd.cells = [kd] ∧ FoV (nth ts i) (.is [.str tag, .str text, a, kd] 1 .full) := by
  rcases h with ⟨h, _⟩ | ⟨row, tok, rfl, _, hr⟩
  · omega
  · obtain ⟨n1, n2⟩ := nth_row ts row i hr hi
    have hl := (nth_len ts i hi).1
    have hrow := (n2 []).2
    cases hn : nth ts i with
    | nil => rw [hn] at hl; simp [Fo.len] at hl
    | cons tag text ats kids rest =>
      rw [hn] at hrow hl
      obtain ⟨a, kd, r, e, h2, h3, h4⟩ := hrow
      have hrest : rest = .nil := len_nil (by simpa [Fo.len] using hl)
      subst hrest
      have hac : a.isCell = true ∧ a.cells = [a] := by rcases h2 with ⟨_, rfl⟩ | ⟨_, _, rfl⟩ <;> exact ⟨rfl, rfl⟩
      have hkc : kd.isCell = true ∧ kd.cells = [kd] := by rcases h3 with ⟨_, rfl⟩ | ⟨_, _, rfl, _⟩ <;> exact ⟨rfl, rfl⟩
      refine ⟨tag, text, a, kd, ?_, rfl, hac.1, hkc.1, hac.2, hkc.2, .inr ⟨_, .full, rfl, a, kd, [], rfl, h2, h3, trivial⟩⟩
      simp only [ia, idx_nat hi, Option.bind_some, n1, if_true]
      rw [e]
      rfl

section
variable {p : PrA} {P V A : Nat} {tx cd sx bl q : AV} {S : Sto} {ar : List Ar}

theorem stat_loop (hT : FoM p.statics sx) (hs : Small p) (n0 : Nat) : ∀ (m i : Nat) (S : Sto), i + m = p.statics.len → n0 ≤ S.length → ∃ S', verify_verifier_lists.p1110100 sx ((p.statics.len : Nat) : Int) ((i : Nat) : Int) S = some ⟨.ret (tup2 (statA p m i)), none, S'⟩ ∧ Keeps n0 S S' := by
  have hsl := len_sz p.statics
  have hss := hs.s
  intro m
  induction m with
  | zero =>
    intro i S him hn
    refine ⟨S, ?_, Keeps.refl _ _⟩
    rw [verify_verifier_lists.p1110100_eq]
    exact bf (dfalse (by omega))
  | succ m ih =>
    intro i S him hn
    have hi : i < p.statics.len := by omega
    have w1 : IntKind.wrap .i64 (((i : Nat) : Int) + 1) = ((i + 1 : Nat) : Int) := w64 _ (by omega) (by omega)
    obtain ⟨tag, text, a, kd, hia, htag, hac, hkc, hac2, hkc2, hfo⟩ := stat_at hT hi
    obtain ⟨S1, hS1⟩ : ∃ S1, S1 = S ++ [Ob.cells 0 [.str tag, .str text, a, kd] 0] := ⟨_, rfl⟩
    have hk1 : Keeps n0 S S1 := by rw [hS1]; exact Keeps.app hn
    have hl1 : S.length ≤ S1.length := by rw [hS1]; simp
    have hst : sto 4 (S ++ [Ob.cells 0 [.str ⟨#[]⟩, .str ⟨#[]⟩, .nils, .nils] 0]) (.mp S.length 0 0) (.agg [.str tag, .str text, a, kd]) = some S1 := by
      rw [hS1]
      refine m_new (cs := [.str ⟨#[]⟩, .str ⟨#[]⟩, .nils, .nils]) (cs' := [.str tag, .str text, a, kd]) ?_ rfl rfl
      simp only [List.all_cons, List.all_nil, hac, hkc, Bool.and_true]
      rfl
    have g0 : ld false 1 S1 (.mp S.length 0 0) = some (.str tag) := by rw [hS1]; exact m_get (n := 0) (g := 0) (fz := 0) last_get rfl
    have g4 : ld true 4 S1 (.mp S.length 0 0) = some (.agg [.str tag, .str text, a, kd]) := by rw [hS1]; exact m_all (g := 0) (fz := 0) last_get rfl
    have hlit : (litS false 1 4 (fillA (fun i => some (i * 4, 4)) [.str ⟨#[]⟩, .str ⟨#[]⟩, .nils, .nils] [(0, .agg [.str tag, .str text, a, kd])]) S1) = some (.is [.str tag, .str text, a, kd] 1 .full, S1) := by
      have : (fillA (fun i => some (i * 4, 4)) [.str ⟨#[]⟩, .str ⟨#[]⟩, .nils, .nils] [(0, .agg [.str tag, .str text, a, kd])]) = some [.str tag, .str text, a, kd] := by
        have e : (AV.agg [.str tag, .str text, a, kd]).cells = [.str tag, .str text, a, kd] := rfl
        have e2 : ([AV.str tag, .str text, a, kd]).all AV.isCell = true := by
          simp only [List.all_cons, List.all_nil, hac, hkc, Bool.and_true]
          rfl
        simp only [fillA, e, e2]
        rfl
      rw [this]
      rfl
    have hszi := (nth_len p.statics i hi).2
    have hck := check_spec hfo (by omega) S1
    have out : ∀ b, b = statBad p i → ∃ S', verify_verifier_lists.p1110100110011 ((i : Nat) : Int) sx ((p.statics.len : Nat) : Int) ((i : Nat) : Int) b S1 = some ⟨.ret (tup2 (statA p (m + 1) i)), none, S'⟩ ∧ Keeps n0 S S' := by
      intro b hb
      rw [verify_verifier_lists.p1110100110011_eq, w1]
      unfold statA
      simp only [firstBad]
      rw [← hb]
      cases b with
      | true => exact ⟨S1, bt rfl, hk1⟩
      | false =>
        obtain ⟨S', e1, e2⟩ := ih (i + 1) S1 (by omega) (by omega)
        exact ⟨S', (bf rfl).trans e1, hk1.trans e2⟩
    rw [verify_verifier_lists.p1110100_eq]
    refine via (bt (dtrue (by omega))) ?_
    refine via (br hia) ?_
    refine via (br (show ld true 4 S (.ip [.str tag, .str text, a, kd]) = some (.agg [.str tag, .str text, a, kd]) from rfl)) ?_
    refine via (br hst) ?_
    by_cases h1 : 4096 ≤ i
    · refine via (bt (dtrue (by omega))) ?_
      exact out true (by unfold statBad; rw [dtrue h1]; rfl)
    · refine via (bf (dfalse (by omega))) ?_
      refine via (br g0) ?_
      refine via (br (aS _)) ?_
      by_cases h2 : tag = ⟨#[]⟩
      · refine via (bt (dtrue h2)) ?_
        exact out true (by unfold statBad; rw [htag, dtrue h2, dfalse h1]; rfl)
      · refine via (bf (dfalse h2)) ?_
        refine via (br g4) ?_
        refine via (br hlit) ?_
        refine via (cr hck) ?_
        refine via (br (aI _)) ?_
        refine out _ ?_
        unfold statBad
        rw [htag, dfalse h2, dfalse h1, Bool.false_or, Bool.false_or]
        congr 1
        exact decide_eq_decide.2 (by omega)

theorem codes_loop2 (H : Prg p P tx cd sx bl S) (hs : Small p) (hV : S[V]? = some (.cells 0 [.mp P 0 0, q] 0)) (n0 : Nat) (hn0 : n0 ≤ S.length) : ∀ (m i : Nat), i + m = p.codes.length → ∃ S', verify_verifier_lists.p110100 (.mp V 0 0) cd ((p.codes.length : Nat) : Int) ((i : Nat) : Int) S = some ⟨.ret (tup2 (codeA p m i)), none, S'⟩ ∧ Keeps n0 S S' := by
  have hsc := hs.c
  intro m
  induction m with
  | zero =>
    intro i him
    obtain ⟨S', e1, e2⟩ := stat_loop H.hS hs n0 p.statics.len 0 S (by omega) hn0
    refine ⟨S', ?_, e2⟩
    rw [verify_verifier_lists.p110100_eq]
    refine (bf (dfalse (by omega))).trans ?_
    refine (rdM hV (k := 0) rfl).trans ?_
    refine (rdM H.hP (k := 2) rfl).trans ?_
    refine (br H.hS.fov.len).trans ?_
    exact e1
  | succ m ih =>
    intro i him
    have hi : i < p.codes.length := by omega
    have w1 : IntKind.wrap .i64 (((i : Nat) : Int) + 1) = ((i + 1 : Nat) : Int) := w64 _ (by omega) (by omega)
    obtain ⟨cs, hia, cw, rfl, hcw⟩ := H.hC.2.2.2 i hi
    have out : ∀ b, b = codeBad p i → ∃ S', verify_verifier_lists.p110100110011 (.mp V 0 0) ((i : Nat) : Int) cd ((p.codes.length : Nat) : Int) ((i : Nat) : Int) b S = some ⟨.ret (tup2 (codeA p (m + 1) i)), none, S'⟩ ∧ Keeps n0 S S' := by
      intro b hb
      rw [verify_verifier_lists.p110100110011_eq, w1]
      unfold codeA
      simp only [firstBad]
      rw [← hb]
      cases b with
      | true => exact ⟨S, bt rfl, Keeps.refl _ _⟩
      | false =>
        obtain ⟨S', e1, e2⟩ := ih (i + 1) (by omega)
        exact ⟨S', (bf rfl).trans e1, e2⟩
    rw [verify_verifier_lists.p110100_eq]
    refine via (bt (dtrue (by omega))) ?_
    refine via (br hia) ?_
    refine via (br (l1 _ _)) ?_
    by_cases h1 : 8192 ≤ i
    · refine via (bt (dtrue (by omega))) ?_
      exact out true (by unfold codeBad; rw [dtrue h1]; rfl)
    · refine via (bf (dfalse (by omega))) ?_
      refine via (rdM hV (k := 0) rfl) ?_
      refine via (rdM H.hP (k := 0) rfl) ?_
      refine via (br H.hT.1) ?_
      refine via (cr (codeCheck_spec hcw (by have := hs.cs i; omega) _ _ S)) ?_
      refine via (br (aI _)) ?_
      refine out _ ?_
      unfold codeBad
      rw [dfalse h1, Bool.false_or]
      congr 1
      exact decide_eq_decide.2 (by omega)

theorem texts_loop2 (H : Prg p P tx cd sx bl S) (hs : Small p) (hV : S[V]? = some (.cells 0 [.mp P 0 0, q] 0)) (n0 : Nat) (hn0 : n0 ≤ S.length) : ∀ (m i : Nat), i + m = p.texts.length → ∃ S', verify_verifier_lists.p10100 (.mp V 0 0) tx ((p.texts.length : Nat) : Int) ((i : Nat) : Int) S = some ⟨.ret (tup2 (textA p m i)), none, S'⟩ ∧ Keeps n0 S S' := by
  have hsc := hs.t
  intro m
  induction m with
  | zero =>
    intro i him
    obtain ⟨S', e1, e2⟩ := codes_loop2 H hs hV n0 hn0 p.codes.length 0 (by omega)
    refine ⟨S', ?_, e2⟩
    rw [verify_verifier_lists.p10100_eq]
    refine (bf (dfalse (by omega))).trans ?_
    refine (rdM hV (k := 0) rfl).trans ?_
    refine (rdM H.hP (k := 1) rfl).trans ?_
    refine (br H.hC.1).trans ?_
    exact e1
  | succ m ih =>
    intro i him
    have hi : i < p.texts.length := by omega
    have w1 : IntKind.wrap .i64 (((i : Nat) : Int) + 1) = ((i + 1 : Nat) : Int) := w64 _ (by omega) (by omega)
    obtain ⟨cs, hia, rfl⟩ := H.hT.2.2.2 i hi
    have out : ∀ b, b = textBad p i → ∃ S', verify_verifier_lists.p10100110011 (.mp V 0 0) ((i : Nat) : Int) tx ((p.texts.length : Nat) : Int) ((i : Nat) : Int) b S = some ⟨.ret (tup2 (textA p (m + 1) i)), none, S'⟩ ∧ Keeps n0 S S' := by
      intro b hb
      rw [verify_verifier_lists.p10100110011_eq, w1]
      unfold textA
      simp only [firstBad]
      rw [← hb]
      cases b with
      | true => exact ⟨S, bt rfl, Keeps.refl _ _⟩
      | false =>
        obtain ⟨S', e1, e2⟩ := ih (i + 1) (by omega)
        exact ⟨S', (bf rfl).trans e1, e2⟩
    rw [verify_verifier_lists.p10100_eq]
    refine via (bt (dtrue (by omega))) ?_
    refine via (br hia) ?_
    refine via (br (l1 _ _)) ?_
    by_cases h1 : 16384 ≤ i
    · refine via (bt (dtrue (by omega))) ?_
      exact out true (by unfold textBad; rw [dtrue h1]; rfl)
    · refine via (bf (dfalse (by omega))) ?_
      refine via (cr (shapeValid_spec _ (by have := hs.ts i; omega) S)) ?_
      refine via (br (aB _)) ?_
      exact out _ (by unfold textBad; rw [dfalse h1, Bool.false_or])

theorem lists_spec (H : Prg p P tx cd sx bl S) (hs : Small p) (hV : S[V]? = some (.cells 0 [.mp P 0 0, q] 0)) : CallR ap 13 [.mp V 0 0] S = some (.ret (tup2 (listsA p)), S) := by
  obtain ⟨S', e1, e2⟩ := texts_loop2 H hs hV S.length (Nat.le_refl _) p.texts.length 0 (by omega)
  rw [verify_verifier_lists.call]
  refine ret_keep (st' := S') ?_ rfl rfl e2
  rw [verify_verifier_lists.b_eq]
  refine (rdM hV (k := 0) rfl).trans ?_
  refine (rdM H.hP (k := 0) rfl).trans ?_
  refine (br H.hT.1).trans ?_
  exact e1
end

/-! ### The pointer to the block doesn't matter -/
def Bk.wb (k : Bk) (x : AV) : Bk := { k with bp := x }
theorem doneK_wb (p : PrA) (i : Nat) (o : OpA) (k : Bk) (l : List Int) (x : AV) : doneK p i o (k.wb x) l = ((doneK p i o k l).1.wb x, (doneK p i o k l).2) := by
  unfold doneK
  repeat' split
  all_goals first | rfl | (exfalso; simp_all [Bk.wb]; done)
theorem arGo_wb (k : Bk) (l : List Int) (o : OpA) (x : AV) : ∀ (bs : List (Int × Int)) (ar : List Ar), arGo (k.wb x) l o ar bs = arGo k l o ar bs := by
  intro bs
  induction bs with
  | nil => intro ar; rfl
  | cons b r ih => intro ar; simp only [arGo]; rw [ih]; rfl
theorem opE_wb (p : PrA) (i : Nat) (o : OpA) (k : Bk) (l : List Int) (ar : List Ar) (x : AV) : opE p i o (k.wb x) l ar = opE p i o k l ar := rfl
theorem opsGo_wb (p : PrA) (x : AV) : ∀ (os : List OpA) (i : Nat) (k : Bk) (l : List Int) (ar : List Ar), opsGo p os i (k.wb x) l ar = ((opsGo p os i k l ar).1, (opsGo p os i k l ar).2.1.wb x, (opsGo p os i k l ar).2.2.1, (opsGo p os i k l ar).2.2.2) := by
  intro os
  induction os with
  | nil => intro i k l ar; rfl
  | cons o r ih =>
    intro i k l ar
    simp only [opsGo, opE_wb, doneK_wb, arGo_wb]
    by_cases h : opE p i o k l ar = 0
    · simp only [h, if_true]
      exact ih _ _ _ _
    · simp only [h, if_false]
theorem look_wb (p : PrA) (b : BlA) (k : Bk) (l : List Int) (ar : List Ar) (x : AV) : lookA p b (k.wb x) l ar = lookA p b k l ar := by
  unfold lookA
  rw [opsGo_wb]
  rfl

/-! ### Verify -/
def mkBk (i : Nat) (bp : AV) (a : Ar) : Bk := ⟨((i : Nat) : Int), bp, a, a.depth, -2, ⟨#[]⟩, -1⟩
noncomputable def blkGo (p : PrA) : List BlA → Nat → List Ar → Nat × Nat × Nat
  | [], _, _ => (0, 0, 0)
  | b :: r, i, ar => if (lookA p b (mkBk i .nilp (ar.getD i default)) [0] ar).1.2 = 0 then blkGo p r (i + 1) (lookA p b (mkBk i .nilp (ar.getD i default)) [0] ar).2
      else (i, (lookA p b (mkBk i .nilp (ar.getD i default)) [0] ar).1.1, (lookA p b (mkBk i .nilp (ar.getD i default)) [0] ar).1.2)
def arZ : Ar := ⟨false, false, 0, 0, 0⟩
def ar0 (n : Nat) : List Ar := (List.replicate n arZ).set 0 ⟨false, false, 1, 0, 0⟩
noncomputable def verA (p : PrA) : Nat × Nat × Nat :=
  if (listsA p).2 ≠ 0 then (0, (listsA p).1, (listsA p).2)
  else if p.blocks.length = 0 ∨ 8192 < p.blocks.length then (0, 0, 2205)
  else blkGo p p.blocks 0 (ar0 p.blocks.length)
def tup3 (e : Nat × Nat × Nat) : AV := .tup [.int .i64 ((e.1 : Nat) : Int), .int .i64 ((e.2.1 : Nat) : Int), .int .i64 ((e.2.2 : Nat) : Int)]

theorem opsGo_len {p : PrA} : ∀ (os : List OpA) (i : Nat) (k : Bk) (l : List Int) (ar : List Ar), (opsGo p os i k l ar).2.2.2.length = ar.length := by
  intro os
  induction os with
  | nil => intro i k l ar; rfl
  | cons o r ih =>
    intro i k l ar
    simp only [opsGo]
    split
    · rw [ih, arGo_len]
    · rfl
theorem lookA_len {p : PrA} {b : BlA} {k : Bk} {l : List Int} {ar : List Ar} : (lookA p b k l ar).2.length = ar.length := by
  unfold lookA
  split
  · rfl
  · split
    · rfl
    · split <;> exact opsGo_len _ _ _ _ _

theorem ar_ld {S : Sto} {A : Nat} {ar : List Ar} (h : S[A]? = some (.cells 0 (arcells ar) 0)) {i : Nat} (hi : i < ar.length) : ld true 5 S (.mp A 0 (i * 5)) = some (.agg (arc (ar.getD i default))) := by
  have hl := ar_len ar
  have h1 : i * 5 + 5 ≤ (arcells ar).length := by omega
  have ht : (arcells (ar.take i)).length = i * 5 := by rw [ar_len, List.length_take]; congr 1; omega
  have hsp : arcells ar = arcells (ar.take i) ++ (arc (ar.getD i default) ++ arcells (ar.drop (i + 1))) := by
    rw [show arc (ar.getD i default) ++ arcells (ar.drop (i + 1)) = arcells (ar.getD i default :: ar.drop (i + 1)) from rfl, ← ar_app, ← ar_split hi]
  have h2 : ((arcells ar).drop (i * 5)).take 5 = arc (ar.getD i default) := by
    rw [hsp, ← ht, List.drop_left]
    rfl
  simp only [ld, ldCells, h, h1, true_and, if_true, Option.bind_some, h2]
  rfl

section
variable {p : PrA} {P V A : Nat} {tx cd sx bl : AV}

theorem blk_loop (hs : Small p) (hm : ∀ row n m, sx = .is row n (.cut m) → n ≤ m) : ∀ (m i : Nat) (ar : List Ar) (S : Sto), i + m = p.blocks.length → Prg p P tx cd sx bl S → S[V]? = some (.cells 0 [.mp P 0 0, .ms A 0 0 ar.length 5] 0) → S[A]? = some (.cells 0 (arcells ar) 0) → P < V → V < A → ar.length = p.blocks.length →
    ∃ S', verify_Verify.p1111110100 P V ((p.blocks.length : Nat) : Int) ((i : Nat) : Int) S = some ⟨.ret (tup3 (blkGo p (p.blocks.drop i) i ar)), none, S'⟩ ∧ Keeps P S S' := by
  have hsb := hs.b
  intro m
  induction m with
  | zero =>
    intro i ar S him H hV hA n1 n2 har
    have hi : i = p.blocks.length := by omega
    subst hi
    refine ⟨S, ?_, Keeps.refl _ _⟩
    rw [verify_Verify.p1111110100_eq, List.drop_length]
    exact bf (dfalse (by omega))
  | succ m ih =>
    intro i ar S him H hV hA n1 n2 har
    have hi : i < p.blocks.length := by omega
    have hAl := (List.getElem?_eq_some_iff.1 hA).1
    have w1 : IntKind.wrap .i64 (((i : Nat) : Int) + 1) = ((i + 1 : Nat) : Int) := w64 _ (by omega) (by omega)
    have hd : p.blocks.drop i = p.blocks.getD i default :: p.blocks.drop (i + 1) := by
      rw [List.drop_eq_getElem_cons hi, List.getD_eq_getElem?_getD, List.getElem?_eq_getElem hi]; rfl
    obtain ⟨bp, cs, hib, hbc, hbc2, hptr, hblc⟩ := H.hB.2.2.2 i hi
    obtain ⟨S1, hS1⟩ : ∃ S1, S1 = S ++ [Ob.cells 0 [.int .i64 0] 0] := ⟨_, rfl⟩
    have hl1 : S1.length = S.length + 1 := by rw [hS1]; simp
    have up1 : ∀ (j : Nat) (o : Ob), S[j]? = some o → S1[j]? = some o := by rw [hS1]; exact ap_get
    let a := ar.getD i default
    obtain ⟨S2, hS2⟩ : ∃ S2, S2 = S1 ++ [Ob.cells 0 (bcells V S.length 0 [0] (mkBk i bp a)) 0] := ⟨_, rfl⟩
    have up2 : ∀ (j : Nat) (o : Ob), S1[j]? = some o → S2[j]? = some o := by rw [hS2]; exact ap_get
    have hPl := (List.getElem?_eq_some_iff.1 H.hP).1
    have hk2 : Keeps (P + 1) S S2 := by rw [hS2, hS1, List.append_assoc]; exact Keeps.app (by omega)
    have hO : S1[S.length]? = some (.cells 0 [.int .i64 0] 0) := by rw [hS1]; simp
    have hN : Now P V A S.length S1.length (mkBk i bp a) 0 [0] ar S2 :=
      ⟨up2 _ _ (up1 _ _ hV), up2 _ _ (up1 _ _ hA), by rw [hS2]; simp, ⟨[], up2 _ _ hO⟩, n1, n2, hAl, by omega⟩
    have hp2 : Ptr P S2 (mkBk i bp a).bp cs := hptr.mono (keeps_weak hk2 (by omega))
    obtain ⟨S3, g3, k3, l3, c1, c2, c3⟩ := look_specB (H.mono hk2) hs hN hm hp2 hblc (hs.o i).2 (hs.o i).1 (hs.l i) rfl har (by show (0 : Int) ≤ ((i : Nat) : Int); omega)
    have hwb : lookA p (p.blocks.getD i default) (mkBk i bp a) [0] ar = lookA p (p.blocks.getD i default) (mkBk i .nilp a) [0] ar := look_wb p _ (mkBk i .nilp a) [0] ar bp
    rw [hwb] at c1 c3
    have hli : (litS true 1 1 (fillA (fun i => some (i * 1, 1)) [.int .i64 0] [(0, (.int .i64 0))]) S) = some (.ms S.length 0 0 1 1, S1) := by
      have : (fillA (fun i => some (i * 1, 1)) [.int .i64 0] [(0, (.int .i64 0))]) = some [.int .i64 0] := rfl
      rw [this, hS1]
      simp [litS]
    have hag : (aggA (fillA (fun i => ([(0, 1), (1, 1), (2, 1), (3, 5), (8, 1), (9, 1), (10, 1), (11, 1), (12, 1)] : List (Nat × Nat))[i]?) [.nilp, .int .i64 0, .nilp, .bool false, .bool false, .int .i64 0, .int .i64 0, .int .i64 0, .int .i64 0, .nils, .int .i64 0, .str ⟨#[]⟩, .int .i64 0] [(0, (.mp V 0 0)), (1, (.int .i64 ((i : Nat) : Int))), (2, bp), (3, .agg (arc a)), (4, .int .i64 a.depth), (5, .ms S.length 0 0 1 1), (6, (.int .i64 (-2))), (8, (.int .i64 (-1)))])) = some (.agg (bcells V S.length 0 [0] (mkBk i bp a))) := by
      rcases hptr with rfl | ⟨id, g, off, all, fz, _, rfl, _⟩ <;> rfl
    have hall : (AV.cells (.agg (bcells V S.length 0 [0] (mkBk i bp a)))).all AV.isCell = true := by
      rcases hptr with rfl | ⟨id, g, off, all, fz, _, rfl, _⟩ <;> rfl
    have hec : AV.cells (.agg (bcells V S.length 0 [0] (mkBk i bp a))) = bcells V S.length 0 [0] (mkBk i bp a) := rfl
    have r3 : ∀ T : Sto, (∀ (j : Nat) (o : Ob), S[j]? = some o → T[j]? = some o) → ld false 1 T (.mp P 0 3) = some bl ∧ ld false 1 T (.mp V 0 1) = some (.ms A 0 0 ar.length 5) ∧ ld true 5 T (.mp A 0 (i * 5)) = some (.agg (arc a)) ∧ ld false 1 T (.mp A 0 (i * 5 + 2)) = some (.int .i64 a.depth) := fun T hT =>
      ⟨m_get (hT _ _ H.hP) rfl, m_get (hT _ _ hV) rfl, ar_ld (hT _ _ hA) (by omega), m_get (hT _ _ hA) (ar_cell (by omega) (j := 2) rfl)⟩
    obtain ⟨p3, v1', a5, d5⟩ := r3 S fun _ _ h => h
    obtain ⟨p3', v1'', a5', d5'⟩ := r3 S1 up1
    have hap := ar_ptr (A := A) (l := ar) (i := i) (by omega)
    have pre : verify_Verify.p1111110100 P V ((p.blocks.length : Nat) : Int) ((i : Nat) : Int) S = (bif !decide ((((lookA p (p.blocks.getD i default) (mkBk i .nilp a) [0] ar).1.2 : Nat) : Int) = 0) then some ⟨.ret (.tup [.int .i64 ((i : Nat) : Int), .int .i64 (((lookA p (p.blocks.getD i default) (mkBk i .nilp a) [0] ar).1.1 : Nat) : Int), .int .i64 (((lookA p (p.blocks.getD i default) (mkBk i .nilp a) [0] ar).1.2 : Nat) : Int)]), none, S3⟩ else verify_Verify.p1111110100 P V ((p.blocks.length : Nat) : Int) ((i + 1 : Nat) : Int) S3) := by
      rw [verify_Verify.p1111110100_eq]
      refine (bt (dtrue (by omega))).trans ?_
      refine (br p3).trans ?_
      refine (br hib).trans ?_
      refine (br v1').trans ?_
      refine (br hap).trans ?_
      refine (br a5).trans ?_
      refine (br v1').trans ?_
      refine (br hap).trans ?_
      refine (br (show fa 2 1 (.mp A 0 (i * 5)) = some (.mp A 0 (i * 5 + 2)) from rfl)).trans ?_
      refine (br d5).trans ?_
      refine (br hli).trans ?_
      refine (br d5').trans ?_
      refine (it rfl).trans ?_
      refine (br v1'').trans ?_
      refine (it rfl).trans ?_
      refine (br a5').trans ?_
      refine (it rfl).trans ?_
      refine (br v1'').trans ?_
      refine (it rfl).trans ?_
      refine (br p3').trans ?_
      refine (it rfl).trans ?_
      refine (br hag).trans ?_
      refine (it hall).trans ?_
      rw [hec, ← hS2]
      refine (cr c1).trans ?_
      refine (br (x0 _ _)).trans ?_
      refine (br (x1 _ _ _)).trans ?_
      refine (br (aI _)).trans ?_
      rw [w1]
    rw [hd, pre]
    simp only [blkGo]
    have hkk : Keeps P S S3 := (keeps_weak hk2 (by omega)).trans (keeps_weak c2 (by omega))
    by_cases hE : (lookA p (p.blocks.getD i default) (mkBk i .nilp a) [0] ar).1.2 = 0
    · have hN3 := c3 hE
      obtain ⟨S', e1, e2⟩ := ih (i + 1) _ S3 (by omega) ((H.mono hk2).mono (keeps_weak c2 (by omega))) hN3.hV hN3.hA n1 n2 (by rw [lookA_len]; exact har)
      refine ⟨S', ?_, hkk.trans e2⟩
      refine (bf (by rw [hE]; rfl)).trans ?_
      rw [if_pos hE]
      exact e1
    · refine ⟨S3, ?_, hkk⟩
      refine (bt (by simp only [Bool.not_eq_true', decide_eq_false_iff_not]; omega)).trans ?_
      rw [if_neg hE]
      rfl

theorem ar_rep (n : Nat) : reps n [AV.bool false, .bool false, .int .i64 0, .int .i64 0, .int .i64 0] = arcells (List.replicate n arZ) := by
  induction n with
  | zero => rfl
  | succ n ih => simp only [reps, ih, List.replicate_succ, arcells]; rfl

theorem verify_spec (hs : Small p) (hm : ∀ row n m, sx = .is row n (.cut m) → n ≤ m) {st : Sto} (hT : TxV p.texts tx) (hC : CdV p.codes cd) (hS : FoM p.statics sx) (hB : BlV st.length st p.blocks bl) (hsc : sx.isCell = true) : CallR ap 8 [.agg [tx, cd, sx, bl]] st = some (.ret (tup3 (verA p)), st) := by
  rw [verify_Verify.call]
  suffices hb : ∃ S', verify_Verify.b (.agg [tx, cd, sx, bl]) st = some ⟨.ret (tup3 (verA p)), none, S'⟩ ∧ Keeps st.length st S' by
    obtain ⟨S', k1, k2⟩ := hb
    exact ret_keep k1 rfl rfl k2
  have hec : AV.cells (.agg [tx, cd, sx, bl]) = [tx, cd, sx, bl] := rfl
  have hall : ([tx, cd, sx, bl]).all AV.isCell = true := by
    simp only [List.all_cons, List.all_nil, hT.2.1, hC.2.1, hsc, hB.2.1, Bool.and_true]
  have hag : (aggA (fillA (fun i => ([(0, 1), (1, 1)] : List (Nat × Nat))[i]?) [.nilp, .nils] [(0, (.mp st.length 0 0))])) = some (.agg [.mp st.length 0 0, .nils]) := rfl
  obtain ⟨S0, hS0⟩ : ∃ S0, S0 = st ++ [Ob.cells 0 [tx, cd, sx, bl] 0] := ⟨_, rfl⟩
  have hl0 : S0.length = st.length + 1 := by rw [hS0]; simp
  obtain ⟨S1, hS1⟩ : ∃ S1, S1 = S0 ++ [Ob.cells 0 [.mp st.length 0 0, .nils] 0] := ⟨_, rfl⟩
  have hl1 : S1.length = st.length + 2 := by rw [hS1]; simp [hl0]
  have hk1 : Keeps st.length st S1 := by rw [hS1, hS0, List.append_assoc]; exact Keeps.app (Nat.le_refl _)
  have H1 : Prg p st.length tx cd sx bl S1 := ⟨by rw [hS1]; exact app_get (by rw [hS0]; simp), hT, hC, hS, hB.mono hk1⟩
  have hV1 : S1[S0.length]? = some (.cells 0 [.mp st.length 0 0, .nils] 0) := by rw [hS1]; simp
  have g3 : ld false 1 S1 (.mp st.length 0 3) = some bl := m_get H1.hP rfl
  have hll := lists_spec H1 hs hV1
  have start : verify_Verify.b (.agg [tx, cd, sx, bl]) st = (bif !decide ((((listsA p).2 : Nat) : Int) = 0) then some ⟨.ret (.tup [.int .i64 0, .int .i64 (((listsA p).1 : Nat) : Int), .int .i64 (((listsA p).2 : Nat) : Int)]), none, S1⟩ else verify_Verify.p11101 st.length S0.length (decide (p.blocks.length = 0 ∨ 8192 < p.blocks.length)) S1) := by
    rw [verify_Verify.b_eq, hec]
    refine (it hall).trans ?_
    refine (br hag).trans ?_
    refine (it rfl).trans ?_
    rw [← hS0, show AV.cells (.agg [.mp st.length 0 0, .nils]) = [.mp st.length 0 0, .nils] from rfl, ← hS1]
    refine (cr hll).trans ?_
    refine (br (x0 _ _)).trans ?_
    refine (br (x1 _ _ _)).trans ?_
    refine (br (aI _)).trans ?_
    congr 1
    refine (br g3).trans ?_
    refine (br hB.1).trans ?_
    by_cases h0 : p.blocks.length = 0
    · refine (bt (dtrue (by omega))).trans ?_
      rw [dtrue (show p.blocks.length = 0 ∨ 8192 < p.blocks.length from .inl h0)]
    · refine (bf (dfalse (by omega))).trans ?_
      refine (br g3).trans ?_
      refine (br hB.1).trans ?_
      rw [show decide (8192 < ((p.blocks.length : Nat) : Int)) = decide (p.blocks.length = 0 ∨ 8192 < p.blocks.length) from decide_eq_decide.2 (by omega)]
  rw [start]
  unfold verA
  by_cases he : (listsA p).2 = 0
  · rw [if_neg (show ¬ (listsA p).2 ≠ 0 from fun h => h he)]
    refine via (bf (by rw [he]; rfl)) ?_
    rw [verify_Verify.p11101_eq]
    by_cases hbad : p.blocks.length = 0 ∨ 8192 < p.blocks.length
    · rw [if_pos hbad]
      exact ⟨S1, bt (dtrue hbad), hk1⟩
    · rw [if_neg hbad]
      have hmk : mkS 5 32 [.bool false, .bool false, .int .i64 0, .int .i64 0, .int .i64 0] (.int .i64 ((p.blocks.length : Nat) : Int)) (.int .i64 ((p.blocks.length : Nat) : Int)) S1 = some (.ms S1.length 0 0 p.blocks.length 5, S1 ++ [.cells 0 (arcells (List.replicate p.blocks.length arZ)) 0]) := by
        simp only [mkS]
        rw [if_pos (by omega), ar_rep]
        simp
      obtain ⟨S2, hS2⟩ : ∃ S2, S2 = S1 ++ [Ob.cells 0 (arcells (List.replicate p.blocks.length arZ)) 0] := ⟨_, rfl⟩
      have hV2 : S2[S0.length]? = some (.cells 0 [.mp st.length 0 0, .nils] 0) := by rw [hS2]; exact app_get hV1
      have hst1 : sto 1 S2 (.mp S0.length 0 1) (.ms S1.length 0 0 p.blocks.length 5) = some (S2.set S0.length (.cells 0 [.mp st.length 0 0, .ms S1.length 0 0 p.blocks.length 5] 0)) := sto_at hV2 (by show 1 < 2; omega) rfl rfl
      obtain ⟨S3, hS3⟩ : ∃ S3, S3 = S2.set S0.length (.cells 0 [.mp st.length 0 0, .ms S1.length 0 0 p.blocks.length 5] 0) := ⟨_, rfl⟩
      have hV2l := (List.getElem?_eq_some_iff.1 hV2).1
      have hV3 : S3[S0.length]? = some (.cells 0 [.mp st.length 0 0, .ms S1.length 0 0 p.blocks.length 5] 0) := by rw [hS3]; exact List.getElem?_set_self hV2l
      have hA3 : S3[S1.length]? = some (.cells 0 (arcells (List.replicate p.blocks.length arZ)) 0) := by rw [hS3, List.getElem?_set_ne (by omega), hS2]; simp
      have hv1 : ld false 1 S3 (.mp S0.length 0 1) = some (.ms S1.length 0 0 p.blocks.length 5) := m_get hV3 rfl
      have hrl : (List.replicate p.blocks.length arZ).length = p.blocks.length := by simp
      have hap : ia 5 (.ms S1.length 0 0 p.blocks.length 5) (.int .i64 0) = some (.mp S1.length 0 0) := by
        have := ar_ptr (A := S1.length) (l := List.replicate p.blocks.length arZ) (i := 0) (by rw [hrl]; omega)
        rw [hrl] at this
        exact this
      have hset : (arcells (List.replicate p.blocks.length arZ)).set 2 (.int .i64 1) = arcells (ar0 p.blocks.length) := by
        obtain ⟨n, hn⟩ : ∃ n, p.blocks.length = n + 1 := ⟨p.blocks.length - 1, by omega⟩
        rw [hn]
        rfl
      have hst2 : sto 1 S3 (.mp S1.length 0 2) (.int .i64 1) = some (S3.set S1.length (.cells 0 (arcells (ar0 p.blocks.length)) 0)) := by
        rw [sto_at hA3 (by rw [ar_len, hrl]; omega) rfl rfl, hset]
      obtain ⟨S4, hS4⟩ : ∃ S4, S4 = S3.set S1.length (.cells 0 (arcells (ar0 p.blocks.length)) 0) := ⟨_, rfl⟩
      have hA3l := (List.getElem?_eq_some_iff.1 hA3).1
      have hk4 : Keeps (st.length + 1) S1 S4 := by
        rw [hS4, hS3, hS2]
        exact (Keeps.app (by omega)).trans ((Keeps.set (by omega)).trans (Keeps.set (by omega)))
      have H4 : Prg p st.length tx cd sx bl S4 := H1.mono hk4
      have hal : (ar0 p.blocks.length).length = p.blocks.length := by simp [ar0]
      obtain ⟨S', e1, e2⟩ := blk_loop (V := S0.length) (A := S1.length) hs hm p.blocks.length 0 (ar0 p.blocks.length) S4 (by omega) H4 (by rw [hal, hS4, List.getElem?_set_ne (by omega)]; exact hV3) (by rw [hS4]; exact List.getElem?_set_self hA3l) (by omega) (by omega) hal
      refine ⟨S', ?_, hk1.trans ((keeps_weak hk4 (by omega)).trans e2)⟩
      refine (bf (dfalse hbad)).trans ?_
      refine (br g3).trans ?_
      refine (br hB.1).trans ?_
      refine (br hmk).trans ?_
      rw [← hS2]
      refine (br hst1).trans ?_
      rw [← hS3]
      refine (br hv1).trans ?_
      refine (br hap).trans ?_
      refine (br (show fa 2 1 (.mp S1.length 0 0) = some (.mp S1.length 0 2) from rfl)).trans ?_
      refine (br hst2).trans ?_
      rw [← hS4]
      refine (br (m_get H4.hP rfl)).trans ?_
      refine (br hB.1).trans ?_
      rw [List.drop_zero] at e1
      exact e1
  · rw [if_pos he]
    refine ⟨S1, ?_, hk1⟩
    refine (bt (by simp only [Bool.not_eq_true', decide_eq_false_iff_not]; omega)).trans ?_
    rfl
end
end Go.Proofs.YtcgepgahgihojaaDoor
