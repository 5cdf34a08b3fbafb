/- Programs: more that nobody asks, in plain Lean. -/
import Derived.Test.YtcgepgahgihojaaDoorVW
namespace Go.Proofs.YtcgepgahgihojaaDoor
open Go.St Go.Lib
set_option linter.unusedVariables false
set_option linter.unusedSimpArgs false

/-! ### Lists that are taken -/
theorem firstBad_none {f : Nat → Bool} : ∀ (m i : Nat), firstBad f m i = none ↔ ∀ j, i ≤ j → j < i + m → f j = false := by
  intro m
  induction m with
  | zero => intro i; simp only [firstBad, true_iff]; intro j h1 h2; omega
  | succ m ih =>
    intro i
    simp only [firstBad]
    cases hf : f i with
    | true =>
      simp only [if_true]
      refine ⟨fun h => (by cases h), fun h => ?_⟩
      have := h i (Nat.le_refl _) (by omega)
      rw [hf] at this; cases this
    | false =>
      simp only [Bool.false_eq_true, if_false]
      rw [ih]
      refine ⟨fun h j h1 h2 => ?_, fun h j h1 h2 => h j (by omega) (by omega)⟩
      by_cases hj : j = i
      · rw [hj]; exact hf
      · exact h j (by omega) (by omega)
theorem lists_ok {p : PrA} : (listsA p).2 = 0 ↔ (∀ i, i < p.texts.length → textBad p i = false) ∧ (∀ i, i < p.codes.length → codeBad p i = false) ∧ ∀ i, i < p.statics.len → statBad p i = false := by
  unfold listsA textA
  have z1 : firstBad (textBad p) p.texts.length 0 = none ↔ ∀ i, i < p.texts.length → textBad p i = false := (firstBad_none _ _).trans ⟨fun h i hi => h i (Nat.zero_le _) (by omega), fun h j _ hj => h j (by omega)⟩
  have z2 : firstBad (codeBad p) p.codes.length 0 = none ↔ ∀ i, i < p.codes.length → codeBad p i = false := (firstBad_none _ _).trans ⟨fun h i hi => h i (Nat.zero_le _) (by omega), fun h j _ hj => h j (by omega)⟩
  have z3 : firstBad (statBad p) p.statics.len 0 = none ↔ ∀ i, i < p.statics.len → statBad p i = false := (firstBad_none _ _).trans ⟨fun h i hi => h i (Nat.zero_le _) (by omega), fun h j _ hj => h j (by omega)⟩
  cases h1 : firstBad (textBad p) p.texts.length 0 with
  | some j =>
    refine ⟨fun h => (by cases h), fun h => ?_⟩
    rw [z1.2 h.1] at h1; cases h1
  | none =>
    unfold codeA
    cases h2 : firstBad (codeBad p) p.codes.length 0 with
    | some j =>
      refine ⟨fun h => (by cases h), fun h => ?_⟩
      rw [z2.2 h.2.1] at h2; cases h2
    | none =>
      unfold statA
      cases h3 : firstBad (statBad p) p.statics.len 0 with
      | some j =>
        refine ⟨fun h => (by cases h), fun h => ?_⟩
        rw [z3.2 h.2.2] at h3; cases h3
      | none => exact ⟨fun _ => ⟨z1.1 h1, z2.1 h2, z3.1 h3⟩, fun _ => rfl⟩

/-! ### A program and one that has more -/
structure Ext (p q : PrA) : Prop where
  tx : q.texts = p.texts
  cl : p.codes.length ≤ q.codes.length
  cd : ∀ i, i < p.codes.length → q.codes.getD i [] = p.codes.getD i []
  sl : p.statics.len ≤ q.statics.len
  st : ∀ i, i < p.statics.len → nth q.statics i = nth p.statics i
  bl : p.blocks.length ≤ q.blocks.length
section
variable {p q : PrA} (E : Ext p q)
include E
theorem Ext.text (x : Int) (t : Bool) : textB q.texts x t = textB p.texts x t := by rw [E.tx]
theorem Ext.kind {o : OpA} (h : kindA p o = true) : kindA q o = true := by
  unfold kindA at h ⊢
  rw [E.tx]
  by_cases h7 : o.k = 7
  · rw [if_neg (by omega), if_neg (by omega), if_neg (by omega), if_neg (by omega), if_neg (by omega), if_pos h7] at h ⊢
    rw [Bool.and_eq_true] at h ⊢
    refine ⟨h.1, ?_⟩
    have := h.2
    unfold numB at this ⊢
    rw [Bool.and_eq_true, decide_eq_true_eq, decide_eq_true_eq] at this ⊢
    have := E.sl
    omega
  · rw [if_neg (c := o.k = 7) h7] at h ⊢
    exact h
theorem Ext.form {i : Nat} {o : OpA} (h : formA p i o = true) : formA q i o = true := by
  unfold formA at h ⊢
  rw [Bool.and_eq_true, Bool.and_eq_true] at h ⊢
  refine ⟨h.1, ?_, E.kind h.2.2⟩
  have := h.2.1
  rw [List.all_eq_true] at this ⊢
  intro c hc
  have := this c hc
  unfold numB at this ⊢
  rw [Bool.and_eq_true, decide_eq_true_eq, decide_eq_true_eq] at this ⊢
  have := E.cl
  omega
theorem Ext.code {k : Bk} {c : Int × Int} (h : c.1 < ((p.codes.length : Nat) : Int) ∧ 0 ≤ c.1) : codeB q k c = codeB p k c := by
  unfold codeB
  rw [E.tx, E.cd _ (by omega)]
theorem Ext.shape {k : Bk} {l : List Int} {i : Nat} {o : OpA} (h7 : o.k = 7 → 0 ≤ o.a ∧ o.a < ((p.statics.len : Nat) : Int)) : shapeA q k l i o = shapeA p k l i o := by
  unfold shapeA
  rw [E.tx]
  by_cases h : o.k = 7
  · obtain ⟨a, b⟩ := h7 h
    rw [E.st _ (by omega)]
  · rw [if_neg (c := o.k = 7) h, if_neg (c := o.k = 7) h]
theorem Ext.doneK {i : Nat} {o : OpA} {k : Bk} {l : List Int} : doneK q i o k l = doneK p i o k l := by
  unfold Go.Proofs.YtcgepgahgihojaaDoor.doneK
  rw [E.tx]
end

theorem arAt_app {ar ex : List Ar} {j : Nat} (h : j < ar.length) : arAt (ar ++ ex) j = arAt ar j := by
  unfold arAt
  rw [List.getD_eq_getElem?_getD, List.getElem?_append_left h, ← List.getD_eq_getElem?_getD]
theorem arGo_app {k : Bk} {l : List Int} {o : OpA} {ex : List Ar} : ∀ {bs : List (Int × Int)} {ar : List Ar}, (∀ x ∈ bs, 0 ≤ x.1 ∧ x.1 < ((ar.length : Nat) : Int)) → arGo k l o (ar ++ ex) bs = arGo k l o ar bs ++ ex := by
  intro bs
  induction bs with
  | nil => intro ar _; rfl
  | cons y r ih =>
    intro ar h
    have := h y (by simp)
    simp only [arGo]
    rw [List.set_append_left _ _ (by omega)]
    exact ih fun x hx => by rw [List.length_set]; exact h x (by simp [hx])
theorem ownGo_app {num : Int} {n m : Nat} {ar ex : List Ar} {all : List (Int × Int)} (hn : 0 ≤ num) (hnm : n ≤ m) (har : ar.length = n) : ∀ (l : List (Int × Int)) (i : Nat), ownGo num n ar all i l = true → ownGo num m (ar ++ ex) all i l = true := by
  intro l
  induction l with
  | nil => intro i _; rfl
  | cons x r ih =>
    intro i h
    simp only [ownGo, Bool.and_eq_true] at h ⊢
    refine ⟨?_, ih (i + 1) h.2⟩
    have := h.1
    unfold ownB at this ⊢
    simp only [Bool.not_eq_true', Bool.or_eq_false_iff, decide_eq_false_iff_not] at this ⊢
    obtain ⟨a, b, c, d⟩ := this
    refine ⟨a, by omega, ?_, d⟩
    unfold owned at c ⊢
    have := arAt_app (ar := ar) (ex := ex) (j := x.1.toNat) (by omega)
    unfold arAt at this
    rw [this]
    exact c

theorem opE_ext {p q : PrA} (E : Ext p q) {i : Nat} {o : OpA} {k : Bk} {l : List Int} {ar ex : List Ar} (hE : opE p i o k l ar = 0) (har : ar.length = p.blocks.length) (hk : 0 ≤ k.num) : opE q i o k l (ar ++ ex) = 0 ∧ arGo k l o (ar ++ ex) (belongsA o) = arGo k l o ar (belongsA o) ++ ex := by
  obtain ⟨e1, e2, e3, e4, e5, e6⟩ := opE_zero hE
  obtain ⟨f1, f2, f3, f4⟩ := form_facts e1
  have c1 := E.form e1
  have c2 : (codesA o).all (codeB q k) = true := by
    rw [List.all_eq_true] at e2 ⊢
    intro c hc
    rw [E.code ⟨(f1 c hc).2, (f1 c hc).1⟩]
    exact e2 c hc
  have c3 : shapeA q k l i o = true := by rw [E.shape f2]; exact e3
  have c4 : ownsA k q (ar ++ ex) o = true := ownGo_app hk E.bl har _ _ e4
  refine ⟨?_, arGo_app fun x hx => ?_⟩
  · unfold opE
    rw [if_neg (by rw [c1]; simp), if_neg (by rw [c2]; simp), if_neg (by rw [c3]; simp), if_neg (by rw [c4]; simp), if_neg (by rw [e5]; simp), if_neg e6]
  · have := own_facts _ _ e4 x hx
    omega
theorem ops_ext {p q : PrA} (E : Ext p q) {ex : List Ar} : ∀ (os : List OpA) (i : Nat) (k : Bk) (l : List Int) (ar : List Ar), (opsGo p os i k l ar).1 = none → ar.length = p.blocks.length → 0 ≤ k.num → 0 < l.length → opsGo q os i k l (ar ++ ex) = (none, (opsGo p os i k l ar).2.1, (opsGo p os i k l ar).2.2.1, (opsGo p os i k l ar).2.2.2 ++ ex) := by
  intro os
  induction os with
  | nil => intro i k l ar _ _ _ _; rfl
  | cons o r ih =>
    intro i k l ar h har hk hl
    simp only [opsGo] at h ⊢
    by_cases hE : opE p i o k l ar = 0
    · obtain ⟨a, b⟩ := opE_ext E (ex := ex) hE har hk
      obtain ⟨e1, e2, e3, e4, e5, e6⟩ := opE_zero hE
      obtain ⟨d1, d2, d3, d4, d5⟩ := doneK_len (p := p) (i := i) (k := k) hl (fun h6 => (shape_facts e3 h6).1)
      rw [if_pos hE] at h
      rw [if_pos hE, if_pos a, E.doneK, b]
      exact ih _ _ _ _ h (by rw [arGo_len]; exact har) (by rw [d3]; exact hk) d1
    · rw [if_neg hE] at h
      cases h

/-- Blocks alike, but that one may have no update. -/
def BRel (b b' : BlA) : Prop := b'.depth = b.depth ∧ b'.ops = b.ops ∧ (b'.upd = b.upd ∨ b'.upd = [])
theorem end_rel {b b' : BlA} (h : BRel b b') {k : Bk} {l : List Int} (he : (endA b k l).2 = 0) : (endA b' k l).2 = 0 := by
  obtain ⟨h1, h2, h3⟩ := h
  unfold endA at he ⊢
  have hs : singleA b' k.first = singleA b k.first := by unfold singleA; rw [h2]
  rw [h2, hs]
  by_cases c1 : 1 < l.length ∨ 0 < lastI l
  · rw [if_pos c1] at he; cases he
  rw [if_neg c1] at he ⊢
  by_cases c2 : k.inn.loop = true ∧ singleA b k.first = false
  · rw [if_pos c2] at he; cases he
  rw [if_neg c2] at he ⊢
  rcases h3 with h3 | h3
  · rw [h3]; exact he
  · rw [h3]; rfl
theorem look_ext {p q : PrA} (E : Ext p q) {b b' : BlA} (hb : BRel b b') {k : Bk} {l : List Int} {ar ex : List Ar} (h : (lookA p b k l ar).1.2 = 0) (har : ar.length = p.blocks.length) (hk : 0 ≤ k.num) (hl : 0 < l.length) : (lookA q b' k l (ar ++ ex)).1.2 = 0 ∧ (lookA q b' k l (ar ++ ex)).2 = (lookA p b k l ar).2 ++ ex := by
  obtain ⟨h1, h2, h3, h4, h5⟩ := look_ok h
  have ho := ops_ext E (ex := ex) b.ops 0 k l ar h3 har hk hl
  have he := end_rel hb h4
  rw [h5]
  unfold lookA
  rw [if_neg h1, if_neg (show ¬ (b'.depth ≠ k.inn.depth) from fun e => e (by rw [hb.1]; exact h2)), hb.2.1, ho]
  exact ⟨he, rfl⟩
theorem blk_ext {p q : PrA} (E : Ext p q) {ex : List Ar} {hf : BlA → BlA} (hr : ∀ b, BRel b (hf b)) (tail : List BlA) : ∀ (bs : List BlA) (i : Nat) (ar : List Ar), (blkGo p bs i ar).2.2 = 0 → ar.length = p.blocks.length → i + bs.length ≤ p.blocks.length → blkGo q (bs.map hf ++ tail) i (ar ++ ex) = blkGo q tail (i + bs.length) (blkAr p bs i ar ++ ex) := by
  intro bs
  induction bs with
  | nil => intro i ar _ _ _; rfl
  | cons b r ih =>
    intro i ar h har hi
    simp only [List.length_cons] at hi
    obtain ⟨h1, h2⟩ := blk_step h
    obtain ⟨a, c⟩ := look_ext E (hr b) (ex := ex) h1 har (by show (0 : Int) ≤ ((i : Nat) : Int); omega) (by simp)
    have hat : (ar ++ ex).getD i default = arAt ar i := arAt_app (by omega)
    rw [List.map_cons, List.cons_append]
    simp only [blkGo, blkAr]
    rw [hat, if_pos a, c, ih (i + 1) _ h2 (by rw [lookA_len]; exact har) (by omega), List.length_cons, show i + (r.length + 1) = i + 1 + r.length by omega]

/-! ### A code, a static more; no update -/
def foApp : Fo → Fo → Fo
  | .nil, u => u
  | .cons a b c d r, u => .cons a b c d (foApp r u)
theorem foApp_len : ∀ (t u : Fo), (foApp t u).len = t.len + u.len := by
  intro t
  induction t with
  | nil => intro u; simp [foApp, Fo.len]
  | cons a b c d r ihk ihr => intro u; simp only [foApp, Fo.len, ihr]; omega
theorem foApp_sz : ∀ (t u : Fo), (foApp t u).sz = t.sz + u.sz := by
  intro t
  induction t with
  | nil => intro u; simp [foApp, Fo.sz]
  | cons a b c d r ihk ihr => intro u; simp only [foApp, Fo.sz, ihr]; omega
theorem nth_app : ∀ (t u : Fo) (i : Nat), (i < t.len → nth (foApp t u) i = nth t i) ∧ (nth (foApp t u) (t.len + i) = nth u i) := by
  intro t
  induction t with
  | nil => intro u i; exact ⟨fun h => by simp [Fo.len] at h, by simp [foApp, Fo.len]⟩
  | cons a b c d r ihk ihr =>
    intro u i
    refine ⟨fun h => ?_, ?_⟩
    · cases i with
      | zero => rfl
      | succ i => exact (ihr u i).1 (by simp only [Fo.len] at h; omega)
    · rw [show (Fo.cons a b c d r).len + i = (r.len + i) + 1 by simp only [Fo.len]; omega]
      exact (ihr u i).2
def oneP : Fo := .cons ⟨#[112]⟩ ⟨#[]⟩ [] .nil .nil
theorem runP : CallR ap 21 [.is [.str ⟨#[112]⟩, .str ⟨#[]⟩, .nils, .nils] 1 .full] [] = some (.ret (.int .i64 0), []) := ev_call 100000 (by kernel_rfl)
theorem look_oneP : (look oneP).2.2 = 0 := by
  have h := check_spec (ts := oneP) (v := .is [.str ⟨#[112]⟩, .str ⟨#[]⟩, .nils, .nils] 1 .full) (.inr ⟨_, .full, rfl, .nils, .nils, [], rfl, .inl ⟨rfl, rfl⟩, .inl ⟨rfl, rfl⟩, trivial⟩) (by decide) []
  rw [runP] at h
  simp only [Option.some.injEq, Prod.mk.injEq, Out.ret.injEq, AV.int.injEq, true_and, and_true] at h
  omega
def noUpd (b : BlA) : BlA := { b with upd := [] }
def moreQ (p : PrA) : PrA := ⟨p.texts, p.codes ++ [[(1, 0)]], foApp p.statics oneP, p.blocks.map noUpd⟩
def eB : BlA := ⟨1, [], []⟩
def moreR (p : PrA) : PrA := ⟨p.texts, p.codes, p.statics, p.blocks ++ [eB]⟩
theorem getD_app_l {α : Type} {l m : List α} {d : α} {i : Nat} (h : i < l.length) : (l ++ m).getD i d = l.getD i d := by
  rw [List.getD_eq_getElem?_getD, List.getElem?_append_left h, ← List.getD_eq_getElem?_getD]
theorem extQ (p : PrA) : Ext p (moreQ p) := ⟨rfl, by simp [moreQ], fun i hi => getD_app_l hi, by show p.statics.len ≤ (foApp p.statics oneP).len; rw [foApp_len]; omega, fun i hi => (nth_app _ _ i).1 hi, by simp [moreQ]⟩
theorem extR (p : PrA) : Ext p (moreR p) := ⟨rfl, Nat.le_refl _, fun _ _ => rfl, Nat.le_refl _, fun _ _ => rfl, by simp [moreR]⟩
theorem ck_null (t : Int) : ckC [(1, 0)] t 64 = 0 := by
  unfold ckC
  rw [if_neg (by simp)]
  simp only [ckGo, List.length_singleton, List.getD_cons_zero]
  rfl
theorem more_taken {p : PrA} (h : (verA p).2.2 = 0) (hc : p.codes.length + 1 ≤ 8192) (hs : p.statics.len + 1 ≤ 4096) : (verA (moreQ p)).2.2 = 0 := by
  obtain ⟨v1, v2, v3, v4⟩ := ver_ok h
  have E := extQ p
  obtain ⟨l1, l2, l3⟩ := lists_ok.1 v1
  have hl : (listsA (moreQ p)).2 = 0 := by
    refine lists_ok.2 ⟨l1, fun i hi => ?_, fun i hi => ?_⟩
    · have hlen : (moreQ p).codes.length = p.codes.length + 1 := by simp [moreQ]
      by_cases hip : i < p.codes.length
      · have := l2 i hip
        unfold codeBad at this ⊢
        rw [E.cd i hip]
        exact this
      · have hie : i = p.codes.length := by omega
        subst hie
        have hg : (moreQ p).codes.getD p.codes.length [] = [(1, 0)] := by
          rw [List.getD_eq_getElem?_getD]
          show ((p.codes ++ [[(1, 0)]])[p.codes.length]?).getD [] = _
          rw [List.getElem?_concat_length]
          rfl
        unfold codeBad
        rw [hg, dfalse (show ¬ 8192 ≤ p.codes.length by omega), ck_null]
        rfl
    · have hlen : (moreQ p).statics.len = p.statics.len + 1 := by show (foApp p.statics oneP).len = _; rw [foApp_len]; rfl
      by_cases hip : i < p.statics.len
      · have := l3 i hip
        unfold statBad at this ⊢
        rw [E.st i hip]
        exact this
      · have hie : i = p.statics.len := by omega
        subst hie
        have hg : nth (moreQ p).statics p.statics.len = oneP := (nth_app p.statics oneP 0).2
        unfold statBad
        rw [hg, dfalse (show ¬ 4096 ≤ p.statics.len by omega), look_oneP]
        rfl
  have hbl : (moreQ p).blocks.length = p.blocks.length := by simp [moreQ]
  unfold verA
  rw [if_neg (fun e => e hl), if_neg (by omega), hbl]
  have hal : (ar0 p.blocks.length).length = p.blocks.length := by simp [ar0]
  have := blk_ext E (ex := []) (hf := noUpd) (fun b => ⟨rfl, rfl, .inr rfl⟩) [] p.blocks 0 (ar0 p.blocks.length) v4 hal (by omega)
  rw [List.append_nil, List.append_nil] at this
  show (blkGo (moreQ p) (p.blocks.map noUpd) 0 (ar0 p.blocks.length)).2.2 = 0
  rw [this]
  rfl
theorem ar0_succ {n : Nat} (h : 0 < n) : ar0 (n + 1) = ar0 n ++ [arZ] := by
  unfold ar0
  rw [List.replicate_succ', List.set_append_left _ _ (by simpa using h)]
theorem more_block {p : PrA} (h : (verA p).2.2 = 0) : verA (moreR p) = if 8192 < p.blocks.length + 1 then (0, 0, 2205) else (p.blocks.length, 0, 2205) := by
  obtain ⟨v1, v2, v3, v4⟩ := ver_ok h
  have E := extR p
  have hl : (listsA (moreR p)).2 = 0 := v1
  have hbl : (moreR p).blocks.length = p.blocks.length + 1 := by simp [moreR]
  unfold verA
  rw [if_neg (fun e => e hl), hbl]
  by_cases hb : 8192 < p.blocks.length + 1
  · rw [if_pos (.inr hb), if_pos hb]
  · rw [if_neg (by omega), if_neg hb, ar0_succ v2]
    have hal : (ar0 p.blocks.length).length = p.blocks.length := by simp [ar0]
    have hle := blk_le v4 hal
    have := blk_ext E (ex := [arZ]) (hf := id) (fun b => ⟨rfl, rfl, .inl rfl⟩) [eB] p.blocks 0 (ar0 p.blocks.length) v4 hal (by omega)
    rw [List.map_id] at this
    show blkGo (moreR p) (p.blocks ++ [eB]) 0 (ar0 p.blocks.length ++ [arZ]) = _
    rw [this, Nat.zero_add]
    have hat : ∀ F : List Ar, F.length = p.blocks.length → (F ++ [arZ]).getD p.blocks.length default = arZ := fun F hF => by
      rw [← hF, List.getD_eq_getElem?_getD, List.getElem?_concat_length]
      rfl
    simp only [blkGo]
    rw [hat _ (hle.1.trans hal)]
    have hk : lookA (moreR p) eB (mkBk p.blocks.length .nilp arZ) [0] (blkAr p p.blocks 0 (ar0 p.blocks.length) ++ [arZ]) = ((0, 2205), blkAr p p.blocks 0 (ar0 p.blocks.length) ++ [arZ]) := by
      unfold lookA
      rw [if_pos ⟨by show (0 : Int) < ((p.blocks.length : Nat) : Int); omega, rfl⟩]
    rw [hk]
    rfl

/-! ## Programs: the last operation gone, in plain Lean. -/
theorem blk_app {p : PrA} : ∀ (a b : List BlA) (i : Nat) (ar : List Ar), (blkGo p (a ++ b) i ar).2.2 = 0 → (blkGo p a i ar).2.2 = 0 ∧ (blkGo p b (i + a.length) (blkAr p a i ar)).2.2 = 0 := by
  intro a
  induction a with
  | nil => intro b i ar h; exact ⟨rfl, h⟩
  | cons x r ih =>
    intro b i ar h
    rw [List.cons_append] at h
    obtain ⟨h1, h2⟩ := blk_step h
    obtain ⟨k1, k2⟩ := ih b (i + 1) _ h2
    have hat : ar.getD i default = arAt ar i := rfl
    refine ⟨?_, ?_⟩
    · simp only [blkGo]
      rw [hat, if_pos h1]
      exact k1
    · rw [List.length_cons, show i + (r.length + 1) = i + 1 + r.length by omega]
      exact k2
theorem blk_dep {p : PrA} : ∀ (a : List BlA) (i : Nat) (ar : List Ar), (blkGo p a i ar).2.2 = 0 → ar.length = p.blocks.length → DpOk ar → DpOk (blkAr p a i ar) := by
  intro a
  induction a with
  | nil => intro i ar _ _ h; exact h
  | cons b r ih =>
    intro i ar h har hd
    obtain ⟨h1, h2⟩ := blk_step h
    obtain ⟨l1', l2', l3', l4', l5'⟩ := look_ok h1
    refine ih (i + 1) _ h2 (by rw [lookA_len]; exact har) ?_
    rw [l5']
    exact ops_depths b.ops 0 _ _ _ l3' (d0 := b.depth) ⟨by rw [l2']; simp [sumI, mkBk], by simp, by rw [l2']; exact (hd i).1, (hd i).2, by simp⟩ (by show (0 : Int) ≤ ((i : Nat) : Int); omega) har hd

/-! ### Within a block -/
structure Inv (d0 : Int) (i : Nat) (k : Bk) (l : List Int) : Prop where
  dep : Dep d0 k l
  first : k.first < ((i : Nat) : Int)
  open1 : k.opened < ((i : Nat) : Int)
  open2 : k.opened = ((i : Nat) : Int) - 1 → 1 < l.length
theorem Inv.done {d0 : Int} {i : Nat} {k : Bk} {l : List Int} (h : Inv d0 i k l) {p : PrA} {o : OpA} {ar : List Ar} (hE : opE p i o k l ar = 0) : Inv d0 (i + 1) (doneK p i o k l).1 (doneK p i o k l).2 := by
  have hd := h.dep.done hE
  obtain ⟨e1, e2, e3, e4, e5, e6⟩ := opE_zero hE
  obtain ⟨_, _, _, f4⟩ := form_facts e1
  have h1 := h.first
  have h2 := h.open1
  have h3 := h.open2
  have hl := h.dep.len
  refine ⟨hd, ?_, ?_, ?_⟩
  · unfold doneK
    repeat' split
    all_goals simp only
    all_goals first | omega | (split <;> omega)
  · unfold doneK
    repeat' split
    all_goals simp only
    all_goals omega
  · unfold doneK
    by_cases k3 : o.k = 3
    · rw [if_pos k3]; intro _; simp; omega
    rw [if_neg k3]
    by_cases k4 : o.k = 4 ∨ o.k = 5
    · rw [if_pos k4]
      intro _
      unfold shapeA at e3
      rw [if_neg k3, if_neg (by omega), if_pos k4] at e3
      simp only [Bool.not_eq_true', Bool.or_eq_false_iff, Bool.not_eq_false', decide_eq_true_eq, decide_eq_false_iff_not] at e3
      have w : wr (((i : Nat) : Int) - 1) = ((i - 1 : Nat) : Int) := w64 _ (by omega) (by omega)
      refine h3 ?_
      rw [e3.1, w]
      omega
    rw [if_neg k4]
    have other : ∀ (k' : Bk) (l' : List Int), k'.opened = k.opened → k'.opened = ((i + 1 : Nat) : Int) - 1 → 1 < l'.length := fun k' l' e h => by omega
    by_cases k6 : o.k = 6
    · rw [if_pos k6]; exact other _ _ rfl
    rw [if_neg k6]
    by_cases k11 : o.k = 11
    · rw [if_pos k11]; exact other _ _ rfl
    rw [if_neg k11]
    by_cases k12 : o.k = 12
    · rw [if_pos k12]; exact other _ _ rfl
    rw [if_neg k12]
    exact other _ _ rfl

/-- The last operation of a row that is taken. -/
theorem ops_snoc {p : PrA} {d0 : Int} {o : OpA} : ∀ (os : List OpA) (i : Nat) (k : Bk) (l : List Int) (ar : List Ar), (opsGo p (os ++ [o]) i k l ar).1 = none → Inv d0 i k l →
    ∃ k1 l1 ar1, opsGo p os i k l ar = (none, k1, l1, ar1) ∧ Inv d0 (i + os.length) k1 l1 ∧ k1.inn = k.inn ∧ opE p (i + os.length) o k1 l1 ar1 = 0 ∧ opsGo p (os ++ [o]) i k l ar = (none, (doneK p (i + os.length) o k1 l1).1, (doneK p (i + os.length) o k1 l1).2, arGo k1 l1 o ar1 (belongsA o)) := by
  intro os
  induction os with
  | nil =>
    intro i k l ar h hI
    simp only [List.nil_append, opsGo] at h ⊢
    by_cases hE : opE p i o k l ar = 0
    · rw [if_pos hE]
      exact ⟨k, l, ar, rfl, hI, rfl, hE, rfl⟩
    · rw [if_neg hE] at h; cases h
  | cons x r ih =>
    intro i k l ar h hI
    simp only [List.cons_append, opsGo] at h ⊢
    by_cases hE : opE p i x k l ar = 0
    · rw [if_pos hE] at h ⊢
      obtain ⟨e1, e2, e3, e4, e5, e6⟩ := opE_zero hE
      obtain ⟨d1, d2, d3, d4, d5⟩ := doneK_len (p := p) (i := i) (k := k) hI.dep.len (fun h6 => (shape_facts e3 h6).1)
      obtain ⟨k1, l1, ar1, a1, a2, a3, a4, a5⟩ := ih (i + 1) _ _ _ h (hI.done hE)
      have e : i + 1 + r.length = i + (x :: r).length := by rw [List.length_cons]; omega
      rw [e] at a2 a4 a5
      refine ⟨k1, l1, ar1, ?_, a2, by rw [a3, d4], a4, by rw [if_pos hE]; exact a5⟩
      exact a1
    · rw [if_neg hE] at h; cases h

def cutB (b : BlA) : BlA := ⟨b.depth, b.ops.dropLast, []⟩
def cutQ (p : PrA) (j : Nat) : PrA := ⟨p.texts, p.codes, p.statics, p.blocks.set j (cutB (p.blocks.getD j default))⟩
theorem extC (p : PrA) (j : Nat) : Ext p (cutQ p j) := ⟨rfl, Nat.le_refl _, fun _ _ => rfl, Nat.le_refl _, fun _ _ => rfl, by simp [cutQ]⟩

/-- What is known of a program whose last operation of a block is gone. -/
theorem cuts_plain {p : PrA} (h : (verA p).2.2 = 0) {j : Nat} (hj : j < p.blocks.length) {o : OpA} (ho : (p.blocks.getD j default).ops = (p.blocks.getD j default).ops.dropLast ++ [o]) :
    (o.k = 6 ∨ o.k = 12 → (verA (cutQ p j)).2.2 = 2204 ∧ (verA (cutQ p j)).1 = j) ∧ ¬ (o.k = 3 ∨ o.k = 4 ∨ o.k = 5 ∨ o.k = 11) ∧ (o.k = 1 ∨ o.k = 2 → (verA (cutQ p j)).2.2 = 0) := by
  obtain ⟨v1, v2, v3, v4⟩ := ver_ok h
  have E := extC p j
  obtain ⟨b, hb⟩ : ∃ b, b = p.blocks.getD j default := ⟨_, rfl⟩
  rw [← hb] at ho
  have hal : (ar0 p.blocks.length).length = p.blocks.length := by simp [ar0]
  have hsp : p.blocks = p.blocks.take j ++ b :: p.blocks.drop (j + 1) := by
    have e : p.blocks.getD j default = p.blocks[j] := by rw [List.getD_eq_getElem?_getD, List.getElem?_eq_getElem hj]; rfl
    rw [hb, e, ← List.drop_eq_getElem_cons hj, List.take_append_drop]
  have htl : (p.blocks.take j).length = j := by rw [List.length_take]; omega
  have hset : p.blocks.set j (cutB b) = p.blocks.take j ++ cutB b :: p.blocks.drop (j + 1) := by rw [List.set_eq_take_append_cons_drop, if_pos hj]
  rw [hsp] at v4
  have v4' : (blkGo p (p.blocks.take j ++ b :: p.blocks.drop (j + 1)) 0 (ar0 p.blocks.length)).2.2 = 0 := by
    have := (ver_ok h).2.2.2
    conv at this => lhs; rw [hsp]
    have e : (p.blocks.take j ++ b :: p.blocks.drop (j + 1)).length = p.blocks.length := by rw [← hsp]
    rw [e] at this
    exact this
  obtain ⟨w1, w2⟩ := blk_app _ _ _ _ v4'
  rw [Nat.zero_add, htl] at w2
  obtain ⟨arJ, harJ⟩ : ∃ a, a = blkAr p (p.blocks.take j) 0 (ar0 p.blocks.length) := ⟨_, rfl⟩
  rw [← harJ] at w2
  have hJl : arJ.length = p.blocks.length := by rw [harJ, (blk_le w1 hal).1, hal]
  have hJd : DpOk arJ := by rw [harJ]; exact blk_dep _ _ _ w1 hal fun i => (ar0_at _ i).2.1
  obtain ⟨x1, x2⟩ := blk_step w2
  obtain ⟨y1, y2, y3, y4, y5⟩ := look_ok x1
  have hI : Inv b.depth 0 (mkBk j .nilp (arAt arJ j)) [0] := ⟨⟨by rw [y2]; simp [sumI, mkBk], by simp, by rw [y2]; exact (hJd j).1, (hJd j).2, by simp⟩, by show (-1 : Int) < _; omega, by show (-2 : Int) < _; omega, fun h => by exfalso; have : (-2 : Int) = ((0 : Nat) : Int) - 1 := h; omega⟩
  obtain ⟨os, hos⟩ : ∃ os, os = b.ops.dropLast := ⟨_, rfl⟩
  rw [← hos] at ho
  rw [ho] at y3 y4 y5
  obtain ⟨k1, l1, ar1, a1, a2, a3, a4, a5⟩ := ops_snoc os 0 _ _ _ y3 hI
  rw [Nat.zero_add] at a2 a4 a5
  rw [a5] at y4 y5
  simp only at y4 y5
  -- the same in what is cut
  have hq : opsGo (cutQ p j) os 0 (mkBk j .nilp (arAt arJ j)) [0] arJ = (none, k1, l1, ar1) := by
    have := ops_ext E (ex := []) os 0 (mkBk j .nilp (arAt arJ j)) [0] arJ (by rw [a1]) hJl (by show (0 : Int) ≤ ((j : Nat) : Int); omega) (by simp)
    rw [a1] at this
    simpa using this
  have hlook : lookA (cutQ p j) (cutB b) (mkBk j .nilp (arAt arJ j)) [0] arJ = (endA (cutB b) k1 l1, ar1) := by
    unfold lookA
    rw [if_neg y1, if_neg (show ¬ ((cutB b).depth ≠ (mkBk j .nilp (arAt arJ j)).inn.depth) from fun e => e y2), show (cutB b).ops = os from hos.symm, hq]
  have hbl : (cutQ p j).blocks.length = p.blocks.length := by simp [cutQ]
  have hver : verA (cutQ p j) = blkGo (cutQ p j) (cutB b :: p.blocks.drop (j + 1)) j arJ := by
    unfold verA
    have hl : (listsA (cutQ p j)).2 = 0 := v1
    rw [if_neg (fun e => e hl), hbl, if_neg (by omega)]
    show blkGo (cutQ p j) (p.blocks.set j (cutB (p.blocks.getD j default))) 0 (ar0 p.blocks.length) = _
    rw [← hb, hset]
    have := blk_ext E (ex := []) (hf := id) (fun b => ⟨rfl, rfl, .inl rfl⟩) (cutB b :: p.blocks.drop (j + 1)) (p.blocks.take j) 0 (ar0 p.blocks.length) w1 hal (by omega)
    rw [List.map_id, List.append_nil, List.append_nil, Nat.zero_add, htl, ← harJ] at this
    exact this
  have hgo : blkGo (cutQ p j) (cutB b :: p.blocks.drop (j + 1)) j arJ = if (endA (cutB b) k1 l1).2 = 0 then blkGo (cutQ p j) (p.blocks.drop (j + 1)) (j + 1) ar1 else (j, (endA (cutB b) k1 l1).1, (endA (cutB b) k1 l1).2) := by
    have hat : arJ.getD j default = arAt arJ j := rfl
    simp only [blkGo]
    rw [hat, hlook]
  obtain ⟨e1, e2, e3, e4, e5, e6⟩ := opE_zero a4
  have hl1 := a2.dep.len
  have bad : 1 < l1.length ∨ 0 < lastI l1 → endA (cutB b) k1 l1 = (os.length, 2204) := fun hc => by
    unfold endA
    rw [if_pos hc, hos]
    rfl
  refine ⟨fun hk => ?_, fun hk => ?_, fun hk => ?_⟩
  · have hc : 1 < l1.length ∨ 0 < lastI l1 := by
      rcases hk with hk | hk
      · exact .inl (shape_facts e3 hk).1
      · right
        unfold shapeA at e3
        rw [if_neg (by omega), if_neg (by omega), if_neg (by omega), if_neg (by omega), if_pos hk] at e3
        have h3 := of_decide_eq_true e3
        unfold formA at e1
        rw [Bool.and_eq_true, Bool.and_eq_true] at e1
        have := e1.2.2
        unfold kindA at this
        rw [if_neg (by omega), if_neg (by omega), if_neg (by omega), if_neg (by omega), if_neg (by omega), if_neg (by omega), if_pos hk, Bool.and_eq_true] at this
        have := of_decide_eq_true this.2
        omega
    rw [hver, hgo, bad hc, if_neg (show ¬ (2204 : Nat) = 0 by omega)]
    exact ⟨rfl, rfl⟩
  · -- the element, or the value, is still there
    have hend : 1 < (doneK p os.length o k1 l1).2.length ∨ 0 < lastI (doneK p os.length o k1 l1).2 := by
      unfold doneK
      by_cases k3 : o.k = 3
      · left; rw [if_pos k3]; simp; omega
      rw [if_neg k3]
      by_cases k4 : o.k = 4 ∨ o.k = 5
      · left
        rw [if_pos k4]
        unfold shapeA at e3
        rw [if_neg k3, if_neg (by omega), if_pos k4] at e3
        simp only [Bool.not_eq_true', Bool.or_eq_false_iff, Bool.not_eq_false', decide_eq_true_eq, decide_eq_false_iff_not] at e3
        obtain ⟨_, _, _, f4⟩ := form_facts e1
        have w : wr (((os.length : Nat) : Int) - 1) = ((os.length - 1 : Nat) : Int) := w64 _ (by omega) (by omega)
        refine a2.open2 ?_
        rw [e3.1, w]
        omega
      · have k11 : o.k = 11 := by omega
        right
        rw [if_neg k4, if_neg (by omega), if_pos k11]
        have hlast : 0 ≤ lastI l1 := a2.dep.pos _ (by
          have e : lastI l1 ∈ l1.dropLast ++ [lastI l1] := by simp
          rwa [← last_eq hl1] at e)
        have hsum : lastI l1 ≤ 64 := by
          have hs := a2.dep.sum
          have ht := a2.dep.top
          have h0 := a2.dep.d0
          have e := congrArg sumI (last_eq hl1)
          rw [sumI_app] at e
          have hp := sumI_pos (l := l1.dropLast) fun x hx => a2.dep.pos x ((List.dropLast_sublist l1).subset hx)
          simp only [sumI] at e
          omega
        have w : wr (lastI l1 + 1) = lastI l1 + 1 := wr_small (by omega) (by omega)
        have hlen : (setLast l1 (wr (lastI l1 + 1))).length = l1.length := by simp [setLast]
        have : lastI (setLast l1 (wr (lastI l1 + 1))) = lastI l1 + 1 := by
          rw [w]
          unfold lastI setLast
          rw [List.length_set, List.getD_eq_getElem?_getD, List.getElem?_set_self (by omega)]
          rfl
        rw [this]
        omega
    unfold endA at y4
    rw [if_pos hend] at y4
    cases y4
  · have hdone : doneK p os.length o k1 l1 = (k1, l1) := by
      unfold doneK
      rw [if_neg (by omega), if_neg (by omega), if_neg (by omega), if_neg (by omega), if_neg (by omega)]
    have hbel : belongsA o = [] := by
      unfold belongsA
      rw [if_neg (by omega), if_neg (by omega), if_neg (by omega)]
    rw [hdone] at y4
    rw [hbel] at y5
    simp only [arGo] at y5
    have c1 : ¬ (1 < l1.length ∨ 0 < lastI l1) := fun hc => by
      unfold endA at y4
      rw [if_pos hc] at y4
      cases y4
    have c2 : k1.inn.loop = false := by
      cases hlp : k1.inn.loop with
      | false => rfl
      | true =>
        exfalso
        unfold endA at y4
        rw [if_neg c1] at y4
        have hs : singleA b k1.first = false := by
          unfold singleA
          have hbo : b.ops.length = os.length + 1 := by rw [ho]; simp
          by_cases h1 : b.ops.length = 1
          · rw [if_pos h1]
            have h0 : os = [] := List.eq_nil_of_length_eq_zero (by omega)
            have : b.ops.getD 0 default = o := by rw [ho, h0]; rfl
            rw [this]
            exact dfalse (by omega)
          · rw [if_neg h1, if_neg (by omega)]
            by_cases h3 : (b.ops.getD 0 default).k ≠ 3
            · rw [if_pos h3]
            · rw [if_neg h3]
              have hf := a2.first
              obtain ⟨_, _, _, f4⟩ := form_facts e1
              have w : wr (((b.ops.length : Nat) : Int) - 1) = ((os.length : Nat) : Int) := w64 _ (by omega) (by omega)
              rw [w]
              exact dfalse (by omega)
        rw [if_pos ⟨hlp, hs⟩] at y4
        cases y4
    have hok : endA (cutB b) k1 l1 = (0, 0) := by
      unfold endA
      rw [if_neg c1, if_neg (by rw [c2]; simp)]
      rfl
    rw [hver, hgo, hok, if_pos rfl]
    rw [y5] at x2
    have har1 : ar1.length = p.blocks.length := by
      have := congrArg List.length y5
      rw [lookA_len] at this
      omega
    have := blk_ext E (ex := []) (hf := id) (fun b => ⟨rfl, rfl, .inl rfl⟩) [] (p.blocks.drop (j + 1)) (j + 1) ar1 x2 har1 (by rw [List.length_drop]; omega)
    rw [List.map_id, List.append_nil, List.append_nil] at this
    rw [this]
    rfl
end Go.Proofs.YtcgepgahgihojaaDoor
