/- Programs: more that nobody asks, in plain Lean. -/
import Derived.Test.YtcgepgahgihojaaDoorVW
namespace Go.Proofs.YtcgepgahgihojaaDoor
open Go.St Go.Lib
set_option linter.unusedVariables false
set_option linter.unusedSimpArgs false

/-! ### Lists that are taken -/
theorem firstBad_none {f : Nat → Bool} : ∀ (m i : Nat), firstBad f m i = none ↔ ∀ j, i ≤ j → j < i + m → f j = false := by
  intro m
  induction m with
  | zero => intro i; simp only [firstBad, true_iff]; intro j h1 h2; omega
  | succ m ih =>
    intro i
    simp only [firstBad]
    cases hf : f i with
    | true =>
      simp only [if_true]
      refine ⟨fun h => (by cases h), fun h => ?_⟩
      have := h i (Nat.le_refl _) (by omega)
      rw [hf] at this; cases this
    | false =>
      simp only [Bool.false_eq_true, if_false]
      rw [ih]
      refine ⟨fun h j h1 h2 => ?_, fun h j h1 h2 => h j (by omega) (by omega)⟩
      by_cases hj : j = i
      · rw [hj]; exact hf
      · exact h j (by omega) (by omega)
theorem lists_ok {p : PrA} : (listsA p).2 = 0 ↔ (∀ i, i < p.texts.length → textBad p i = false) ∧ (∀ i, i < p.codes.length → codeBad p i = false) ∧ ∀ i, i < p.statics.len → statBad p i = false := by
  unfold listsA textA
  have z1 : firstBad (textBad p) p.texts.length 0 = none ↔ ∀ i, i < p.texts.length → textBad p i = false := (firstBad_none _ _).trans ⟨fun h i hi => h i (Nat.zero_le _) (by omega), fun h j _ hj => h j (by omega)⟩
  have z2 : firstBad (codeBad p) p.codes.length 0 = none ↔ ∀ i, i < p.codes.length → codeBad p i = false := (firstBad_none _ _).trans ⟨fun h i hi => h i (Nat.zero_le _) (by omega), fun h j _ hj => h j (by omega)⟩
  have z3 : firstBad (statBad p) p.statics.len 0 = none ↔ ∀ i, i < p.statics.len → statBad p i = false := (firstBad_none _ _).trans ⟨fun h i hi => h i (Nat.zero_le _) (by omega), fun h j _ hj => h j (by omega)⟩
  cases h1 : firstBad (textBad p) p.texts.length 0 with
  | some j =>
    refine ⟨fun h => (by cases h), fun h => ?_⟩
    rw [z1.2 h.1] at h1; cases h1
  | none =>
    unfold codeA
    cases h2 : firstBad (codeBad p) p.codes.length 0 with
    | some j =>
      refine ⟨fun h => (by cases h), fun h => ?_⟩
      rw [z2.2 h.2.1] at h2; cases h2
    | none =>
      unfold statA
      cases h3 : firstBad (statBad p) p.statics.len 0 with
      | some j =>
        refine ⟨fun h => (by cases h), fun h => ?_⟩
        rw [z3.2 h.2.2] at h3; cases h3
      | none => exact ⟨fun _ => ⟨z1.1 h1, z2.1 h2, z3.1 h3⟩, fun _ => rfl⟩

/-! ### A program and one that has more -/
structure Ext (p q : PrA) : Prop where
  tx : q.texts = p.texts
  cl : p.codes.length ≤ q.codes.length
  cd : ∀ i, i < p.codes.length → q.codes.getD i [] = p.codes.getD i []
  sl : p.statics.len ≤ q.statics.len
  st : ∀ i, i < p.statics.len → nth q.statics i = nth p.statics i
  bl : p.blocks.length ≤ q.blocks.length
section
variable {p q : PrA} (E : Ext p q)
include E
theorem Ext.text (x : Int) (t : Bool) : textB q.texts x t = textB p.texts x t := by rw [E.tx]
theorem Ext.kind {o : OpA} (h : kindA p o = true) : kindA q o = true := by
  unfold kindA at h ⊢
  rw [E.tx]
  by_cases h7 : o.k = 7
  · rw [if_neg (by omega), if_neg (by omega), if_neg (by omega), if_neg (by omega), if_neg (by omega), if_pos h7] at h ⊢
    rw [Bool.and_eq_true] at h ⊢
    refine ⟨h.1, ?_⟩
    have := h.2
    unfold numB at this ⊢
    rw [Bool.and_eq_true, decide_eq_true_eq, decide_eq_true_eq] at this ⊢
    have := E.sl
    omega
  · rw [if_neg (c := o.k = 7) h7] at h ⊢
    exact h
theorem Ext.form {i : Nat} {o : OpA} (h : formA p i o = true) : formA q i o = true := by
  unfold formA at h ⊢
  rw [Bool.and_eq_true, Bool.and_eq_true] at h ⊢
  refine ⟨h.1, ?_, E.kind h.2.2⟩
  have := h.2.1
  rw [List.all_eq_true] at this ⊢
  intro c hc
  have := this c hc
  unfold numB at this ⊢
  rw [Bool.and_eq_true, decide_eq_true_eq, decide_eq_true_eq] at this ⊢
  have := E.cl
  omega
theorem Ext.code {k : Bk} {c : Int × Int} (h : c.1 < ((p.codes.length : Nat) : Int) ∧ 0 ≤ c.1) : codeB q k c = codeB p k c := by
  unfold codeB
  rw [E.tx, E.cd _ (by omega)]
theorem Ext.shape {k : Bk} {l : List Int} {i : Nat} {o : OpA} (h7 : o.k = 7 → 0 ≤ o.a ∧ o.a < ((p.statics.len : Nat) : Int)) : shapeA q k l i o = shapeA p k l i o := by
  unfold shapeA
  rw [E.tx]
  by_cases h : o.k = 7
  · obtain ⟨a, b⟩ := h7 h
    rw [E.st _ (by omega)]
  · rw [if_neg (c := o.k = 7) h, if_neg (c := o.k = 7) h]
theorem Ext.doneK {i : Nat} {o : OpA} {k : Bk} {l : List Int} : doneK q i o k l = doneK p i o k l := by
  unfold Go.Proofs.YtcgepgahgihojaaDoor.doneK
  rw [E.tx]
end

theorem arAt_app {ar ex : List Ar} {j : Nat} (h : j < ar.length) : arAt (ar ++ ex) j = arAt ar j := by
  unfold arAt
  rw [List.getD_eq_getElem?_getD, List.getElem?_append_left h, ← List.getD_eq_getElem?_getD]
theorem arGo_app {k : Bk} {l : List Int} {o : OpA} {ex : List Ar} : ∀ {bs : List (Int × Int)} {ar : List Ar}, (∀ x ∈ bs, 0 ≤ x.1 ∧ x.1 < ((ar.length : Nat) : Int)) → arGo k l o (ar ++ ex) bs = arGo k l o ar bs ++ ex := by
  intro bs
  induction bs with
  | nil => intro ar _; rfl
  | cons y r ih =>
    intro ar h
    have := h y (by simp)
    simp only [arGo]
    rw [List.set_append_left _ _ (by omega)]
    exact ih fun x hx => by rw [List.length_set]; exact h x (by simp [hx])
theorem ownGo_app {num : Int} {n m : Nat} {ar ex : List Ar} {all : List (Int × Int)} (hn : 0 ≤ num) (hnm : n ≤ m) (har : ar.length = n) : ∀ (l : List (Int × Int)) (i : Nat), ownGo num n ar all i l = true → ownGo num m (ar ++ ex) all i l = true := by
  intro l
  induction l with
  | nil => intro i _; rfl
  | cons x r ih =>
    intro i h
    simp only [ownGo, Bool.and_eq_true] at h ⊢
    refine ⟨?_, ih (i + 1) h.2⟩
    have := h.1
    unfold ownB at this ⊢
    simp only [Bool.not_eq_true', Bool.or_eq_false_iff, decide_eq_false_iff_not] at this ⊢
    obtain ⟨a, b, c, d⟩ := this
    refine ⟨a, by omega, ?_, d⟩
    unfold owned at c ⊢
    have := arAt_app (ar := ar) (ex := ex) (j := x.1.toNat) (by omega)
    unfold arAt at this
    rw [this]
    exact c

theorem opE_ext {p q : PrA} (E : Ext p q) {i : Nat} {o : OpA} {k : Bk} {l : List Int} {ar ex : List Ar} (hE : opE p i o k l ar = 0) (har : ar.length = p.blocks.length) (hk : 0 ≤ k.num) : opE q i o k l (ar ++ ex) = 0 ∧ arGo k l o (ar ++ ex) (belongsA o) = arGo k l o ar (belongsA o) ++ ex := by
  obtain ⟨e1, e2, e3, e4, e5, e6⟩ := opE_zero hE
  obtain ⟨f1, f2, f3, f4⟩ := form_facts e1
  have c1 := E.form e1
  have c2 : (codesA o).all (codeB q k) = true := by
    rw [List.all_eq_true] at e2 ⊢
    intro c hc
    rw [E.code ⟨(f1 c hc).2, (f1 c hc).1⟩]
    exact e2 c hc
  have c3 : shapeA q k l i o = true := by rw [E.shape f2]; exact e3
  have c4 : ownsA k q (ar ++ ex) o = true := ownGo_app hk E.bl har _ _ e4
  refine ⟨?_, arGo_app fun x hx => ?_⟩
  · unfold opE
    rw [if_neg (by rw [c1]; simp), if_neg (by rw [c2]; simp), if_neg (by rw [c3]; simp), if_neg (by rw [c4]; simp), if_neg (by rw [e5]; simp), if_neg e6]
  · have := own_facts _ _ e4 x hx
    omega
theorem ops_ext {p q : PrA} (E : Ext p q) {ex : List Ar} : ∀ (os : List OpA) (i : Nat) (k : Bk) (l : List Int) (ar : List Ar), (opsGo p os i k l ar).1 = none → ar.length = p.blocks.length → 0 ≤ k.num → 0 < l.length → opsGo q os i k l (ar ++ ex) = (none, (opsGo p os i k l ar).2.1, (opsGo p os i k l ar).2.2.1, (opsGo p os i k l ar).2.2.2 ++ ex) := by
  intro os
  induction os with
  | nil => intro i k l ar _ _ _ _; rfl
  | cons o r ih =>
    intro i k l ar h har hk hl
    simp only [opsGo] at h ⊢
    by_cases hE : opE p i o k l ar = 0
    · obtain ⟨a, b⟩ := opE_ext E (ex := ex) hE har hk
      obtain ⟨e1, e2, e3, e4, e5, e6⟩ := opE_zero hE
      obtain ⟨d1, d2, d3, d4, d5⟩ := doneK_len (p := p) (i := i) (k := k) hl (fun h6 => (shape_facts e3 h6).1)
      rw [if_pos hE] at h
      rw [if_pos hE, if_pos a, E.doneK, b]
      exact ih _ _ _ _ h (by rw [arGo_len]; exact har) (by rw [d3]; exact hk) d1
    · rw [if_neg hE] at h
      cases h

/-- Blocks alike, but that one may have no update. -/
def BRel (b b' : BlA) : Prop := b'.depth = b.depth ∧ b'.ops = b.ops ∧ (b'.upd = b.upd ∨ b'.upd = [])
theorem end_rel {b b' : BlA} (h : BRel b b') {k : Bk} {l : List Int} (he : (endA b k l).2 = 0) : (endA b' k l).2 = 0 := by
  obtain ⟨h1, h2, h3⟩ := h
  unfold endA at he ⊢
  have hs : singleA b' k.first = singleA b k.first := by unfold singleA; rw [h2]
  rw [h2, hs]
  by_cases c1 : 1 < l.length ∨ 0 < lastI l
  · rw [if_pos c1] at he; cases he
  rw [if_neg c1] at he ⊢
  by_cases c2 : k.inn.loop = true ∧ singleA b k.first = false
  · rw [if_pos c2] at he; cases he
  rw [if_neg c2] at he ⊢
  rcases h3 with h3 | h3
  · rw [h3]; exact he
  · rw [h3]; rfl
theorem look_ext {p q : PrA} (E : Ext p q) {b b' : BlA} (hb : BRel b b') {k : Bk} {l : List Int} {ar ex : List Ar} (h : (lookA p b k l ar).1.2 = 0) (har : ar.length = p.blocks.length) (hk : 0 ≤ k.num) (hl : 0 < l.length) : (lookA q b' k l (ar ++ ex)).1.2 = 0 ∧ (lookA q b' k l (ar ++ ex)).2 = (lookA p b k l ar).2 ++ ex := by
  obtain ⟨h1, h2, h3, h4, h5⟩ := look_ok h
  have ho := ops_ext E (ex := ex) b.ops 0 k l ar h3 har hk hl
  have he := end_rel hb h4
  rw [h5]
  unfold lookA
  rw [if_neg h1, if_neg (show ¬ (b'.depth ≠ k.inn.depth) from fun e => e (by rw [hb.1]; exact h2)), hb.2.1, ho]
  exact ⟨he, rfl⟩
theorem blk_ext {p q : PrA} (E : Ext p q) {ex : List Ar} {hf : BlA → BlA} (hr : ∀ b, BRel b (hf b)) (tail : List BlA) : ∀ (bs : List BlA) (i : Nat) (ar : List Ar), (blkGo p bs i ar).2.2 = 0 → ar.length = p.blocks.length → i + bs.length ≤ p.blocks.length → blkGo q (bs.map hf ++ tail) i (ar ++ ex) = blkGo q tail (i + bs.length) (blkAr p bs i ar ++ ex) := by
  intro bs
  induction bs with
  | nil => intro i ar _ _ _; rfl
  | cons b r ih =>
    intro i ar h har hi
    simp only [List.length_cons] at hi
    obtain ⟨h1, h2⟩ := blk_step h
    obtain ⟨a, c⟩ := look_ext E (hr b) (ex := ex) h1 har (by show (0 : Int) ≤ ((i : Nat) : Int); omega) (by simp)
    have hat : (ar ++ ex).getD i default = arAt ar i := arAt_app (by omega)
    rw [List.map_cons, List.cons_append]
    simp only [blkGo, blkAr]
    rw [hat, if_pos a, c, ih (i + 1) _ h2 (by rw [lookA_len]; exact har) (by omega), List.length_cons, show i + (r.length + 1) = i + 1 + r.length by omega]

/-! ### A code, a static more; no update -/
def foApp : Fo → Fo → Fo
  | .nil, u => u
  | .cons a b c d r, u => .cons a b c d (foApp r u)
theorem foApp_len : ∀ (t u : Fo), (foApp t u).len = t.len + u.len := by
  intro t
  induction t with
  | nil => intro u; simp [foApp, Fo.len]
  | cons a b c d r ihk ihr => intro u; simp only [foApp, Fo.len, ihr]; omega
theorem foApp_sz : ∀ (t u : Fo), (foApp t u).sz = t.sz + u.sz := by
  intro t
  induction t with
  | nil => intro u; simp [foApp, Fo.sz]
  | cons a b c d r ihk ihr => intro u; simp only [foApp, Fo.sz, ihr]; omega
theorem nth_app : ∀ (t u : Fo) (i : Nat), (i < t.len → nth (foApp t u) i = nth t i) ∧ (nth (foApp t u) (t.len + i) = nth u i) := by
  intro t
  induction t with
  | nil => intro u i; exact ⟨fun h => by simp [Fo.len] at h, by simp [foApp, Fo.len]⟩
  | cons a b c d r ihk ihr =>
    intro u i
    refine ⟨fun h => ?_, ?_⟩
    · cases i with
      | zero => rfl
      | succ i => exact (ihr u i).1 (by simp only [Fo.len] at h; omega)
    · rw [show (Fo.cons a b c d r).len + i = (r.len + i) + 1 by simp only [Fo.len]; omega]
      exact (ihr u i).2
def oneP : Fo := .cons ⟨#[112]⟩ ⟨#[]⟩ [] .nil .nil
theorem runP : CallR ap 21 [.is [.str ⟨#[112]⟩, .str ⟨#[]⟩, .nils, .nils] 1 .full] [] = some (.ret (.int .i64 0), []) := ev_call 100000 (by kernel_rfl)
theorem look_oneP : (look oneP).2.2 = 0 := by
  have h := check_spec (ts := oneP) (v := .is [.str ⟨#[112]⟩, .str ⟨#[]⟩, .nils, .nils] 1 .full) (.inr ⟨_, .full, rfl, .nils, .nils, [], rfl, .inl ⟨rfl, rfl⟩, .inl ⟨rfl, rfl⟩, trivial⟩) (by decide) []
  rw [runP] at h
  simp only [Option.some.injEq, Prod.mk.injEq, Out.ret.injEq, AV.int.injEq, true_and, and_true] at h
  omega
def noUpd (b : BlA) : BlA := { b with upd := [] }
def moreQ (p : PrA) : PrA := ⟨p.texts, p.codes ++ [[(1, 0)]], foApp p.statics oneP, p.blocks.map noUpd⟩
def eB : BlA := ⟨1, [], []⟩
def moreR (p : PrA) : PrA := ⟨p.texts, p.codes, p.statics, p.blocks ++ [eB]⟩
theorem getD_app_l {α : Type} {l m : List α} {d : α} {i : Nat} (h : i < l.length) : (l ++ m).getD i d = l.getD i d := by
  rw [List.getD_eq_getElem?_getD, List.getElem?_append_left h, ← List.getD_eq_getElem?_getD]
theorem extQ (p : PrA) : Ext p (moreQ p) := ⟨rfl, by simp [moreQ], fun i hi => getD_app_l hi, by show p.statics.len ≤ (foApp p.statics oneP).len; rw [foApp_len]; omega, fun i hi => (nth_app _ _ i).1 hi, by simp [moreQ]⟩
theorem extR (p : PrA) : Ext p (moreR p) := ⟨rfl, Nat.le_refl _, fun _ _ => rfl, Nat.le_refl _, fun _ _ => rfl, by simp [moreR]⟩
theorem ck_null (t : Int) : ckC [(1, 0)] t 64 = 0 := by
  unfold ckC
  rw [if_neg (by simp)]
  simp only [ckGo, List.length_singleton, List.getD_cons_zero]
  rfl
theorem more_taken {p : PrA} (h : (verA p).2.2 = 0) (hc : p.codes.length + 1 ≤ 8192) (hs : p.statics.len + 1 ≤ 4096) : (verA (moreQ p)).2.2 = 0 := by
  obtain ⟨v1, v2, v3, v4⟩ := ver_ok h
  have E := extQ p
  obtain ⟨l1, l2, l3⟩ := lists_ok.1 v1
  have hl : (listsA (moreQ p)).2 = 0 := by
    refine lists_ok.2 ⟨l1, fun i hi => ?_, fun i hi => ?_⟩
    · have hlen : (moreQ p).codes.length = p.codes.length + 1 := by simp [moreQ]
      by_cases hip : i < p.codes.length
      · have := l2 i hip
        unfold codeBad at this ⊢
        rw [E.cd i hip]
        exact this
      · have hie : i = p.codes.length := by omega
        subst hie
        have hg : (moreQ p).codes.getD p.codes.length [] = [(1, 0)] := by
          rw [List.getD_eq_getElem?_getD]
          show ((p.codes ++ [[(1, 0)]])[p.codes.length]?).getD [] = _
          rw [List.getElem?_concat_length]
          rfl
        unfold codeBad
        rw [hg, dfalse (show ¬ 8192 ≤ p.codes.length by omega), ck_null]
        rfl
    · have hlen : (moreQ p).statics.len = p.statics.len + 1 := by show (foApp p.statics oneP).len = _; rw [foApp_len]; rfl
      by_cases hip : i < p.statics.len
      · have := l3 i hip
        unfold statBad at this ⊢
        rw [E.st i hip]
        exact this
      · have hie : i = p.statics.len := by omega
        subst hie
        have hg : nth (moreQ p).statics p.statics.len = oneP := (nth_app p.statics oneP 0).2
        unfold statBad
        rw [hg, dfalse (show ¬ 4096 ≤ p.statics.len by omega), look_oneP]
        rfl
  have hbl : (moreQ p).blocks.length = p.blocks.length := by simp [moreQ]
  unfold verA
  rw [if_neg (fun e => e hl), if_neg (by omega), hbl]
  have hal : (ar0 p.blocks.length).length = p.blocks.length := by simp [ar0]
  have := blk_ext E (ex := []) (hf := noUpd) (fun b => ⟨rfl, rfl, .inr rfl⟩) [] p.blocks 0 (ar0 p.blocks.length) v4 hal (by omega)
  rw [List.append_nil, List.append_nil] at this
  show (blkGo (moreQ p) (p.blocks.map noUpd) 0 (ar0 p.blocks.length)).2.2 = 0
  rw [this]
  rfl
theorem ar0_succ {n : Nat} (h : 0 < n) : ar0 (n + 1) = ar0 n ++ [arZ] := by
  unfold ar0
  rw [List.replicate_succ', List.set_append_left _ _ (by simpa using h)]
theorem more_block {p : PrA} (h : (verA p).2.2 = 0) : verA (moreR p) = if 8192 < p.blocks.length + 1 then (0, 0, 2205) else (p.blocks.length, 0, 2205) := by
  obtain ⟨v1, v2, v3, v4⟩ := ver_ok h
  have E := extR p
  have hl : (listsA (moreR p)).2 = 0 := v1
  have hbl : (moreR p).blocks.length = p.blocks.length + 1 := by simp [moreR]
  unfold verA
  rw [if_neg (fun e => e hl), hbl]
  by_cases hb : 8192 < p.blocks.length + 1
  · rw [if_pos (.inr hb), if_pos hb]
  · rw [if_neg (by omega), if_neg hb, ar0_succ v2]
    have hal : (ar0 p.blocks.length).length = p.blocks.length := by simp [ar0]
    have hle := blk_le v4 hal
    have := blk_ext E (ex := [arZ]) (hf := id) (fun b => ⟨rfl, rfl, .inl rfl⟩) [eB] p.blocks 0 (ar0 p.blocks.length) v4 hal (by omega)
    rw [List.map_id] at this
    show blkGo (moreR p) (p.blocks ++ [eB]) 0 (ar0 p.blocks.length ++ [arZ]) = _
    rw [this, Nat.zero_add]
    have hat : ∀ F : List Ar, F.length = p.blocks.length → (F ++ [arZ]).getD p.blocks.length default = arZ := fun F hF => by
      rw [← hF, List.getD_eq_getElem?_getD, List.getElem?_concat_length]
      rfl
    simp only [blkGo]
    rw [hat _ (hle.1.trans hal)]
    have hk : lookA (moreR p) eB (mkBk p.blocks.length .nilp arZ) [0] (blkAr p p.blocks 0 (ar0 p.blocks.length) ++ [arZ]) = ((0, 2205), blkAr p p.blocks 0 (ar0 p.blocks.length) ++ [arZ]) := by
      unfold lookA
      rw [if_pos ⟨by show (0 : Int) < ((p.blocks.length : Nat) : Int); omega, rfl⟩]
    rw [hk]
    rfl
end Go.Proofs.YtcgepgahgihojaaDoor
