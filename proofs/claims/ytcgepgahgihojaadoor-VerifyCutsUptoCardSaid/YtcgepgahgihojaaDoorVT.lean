/- Programs: what holds in one that is taken, in plain Lean. -/
import Derived.Test.YtcgepgahgihojaaDoorVV
namespace Go.Proofs.YtcgepgahgihojaaDoor
open Go.St Go.Lib
set_option linter.unusedVariables false
set_option linter.unusedSimpArgs false

theorem opE_zero {p : PrA} {i : Nat} {o : OpA} {k : Bk} {l : List Int} {ar : List Ar} (h : opE p i o k l ar = 0) : formA p i o = true ∧ (codesA o).all (codeB p k) = true ∧ shapeA p k l i o = true ∧ ownsA k p ar o = true ∧ deepA k o = false ∧ ¬ (o.k = 9 ∧ 8 ≤ k.inn.loops) := by
  unfold opE at h
  rcases bool_cases (formA p i o) with h1 | h1
  · rw [if_pos h1] at h; cases h
  rw [if_neg (by rw [h1]; simp)] at h
  rcases bool_cases ((codesA o).all (codeB p k)) with h2 | h2
  · rw [if_pos h2] at h; cases h
  rw [if_neg (by rw [h2]; simp)] at h
  rcases bool_cases (shapeA p k l i o) with h3 | h3
  · rw [if_pos h3] at h; cases h
  rw [if_neg (by rw [h3]; simp)] at h
  rcases bool_cases (ownsA k p ar o) with h4 | h4
  · rw [if_pos h4] at h; cases h
  rw [if_neg (by rw [h4]; simp)] at h
  rcases (bool_cases (deepA k o)).symm with h5 | h5
  · rw [if_pos h5] at h; cases h
  rw [if_neg (by rw [h5]; simp)] at h
  by_cases h6 : o.k = 9 ∧ 8 ≤ k.inn.loops
  · rw [if_pos h6] at h; cases h
  exact ⟨h1, h2, h3, h4, h5, h6⟩

/-! ### Which blocks an operation takes -/
def arAt (ar : List Ar) (j : Nat) : Ar := ar.getD j default
theorem arAt_set {ar : List Ar} {x j : Nat} {a : Ar} (hx : x < ar.length) : arAt (ar.set x a) j = if j = x then a else arAt ar j := by
  unfold arAt
  rw [List.getD_eq_getElem?_getD, List.getD_eq_getElem?_getD]
  by_cases h : j = x
  · subst h
    rw [if_pos rfl, List.getElem?_set_self hx]
    rfl
  · rw [if_neg h, List.getElem?_set_ne (Ne.symm h)]
/-- All of them behind 'num', there, free, and no two the same. -/
def Free (num : Int) (ar : List Ar) : List (Int × Int) → Prop
  | [] => True
  | x :: r => num < x.1 ∧ 0 ≤ x.1 ∧ x.1 < ((ar.length : Nat) : Int) ∧ (arAt ar x.1.toNat).owned = false ∧ (∀ y ∈ r, y.1 ≠ x.1) ∧ Free num ar r
theorem Free.set {num : Int} {ar : List Ar} {x : Nat} {a : Ar} (hx : x < ar.length) : ∀ {l : List (Int × Int)}, Free num ar l → (∀ y ∈ l, y.1 ≠ (x : Int)) → Free num (ar.set x a) l := by
  intro l
  induction l with
  | nil => intro _ _; trivial
  | cons y r ih =>
    rintro ⟨h1, h2, h3, h4, h5, h6⟩ hne
    refine ⟨h1, h2, by rw [List.length_set]; exact h3, ?_, h5, ih h6 fun z hz => hne z (by simp [hz])⟩
    have := hne y (by simp)
    rw [arAt_set hx, if_neg (by omega)]
    exact h4
theorem own_free {k : Bk} {p : PrA} {ar : List Ar} {o : OpA} (h : ownsA k p ar o = true) (hn : 0 ≤ k.num) (har : ar.length = p.blocks.length) : Free k.num ar (belongsA o) := by
  have hl := belongsA_len o
  have hf := own_facts (belongsA o) 0 h
  unfold ownsA at h
  match hb : belongsA o with
  | [] => trivial
  | [x] =>
    rw [hb] at hf
    obtain ⟨a, b, c⟩ := hf x (by simp)
    exact ⟨a, by omega, by omega, c, by simp, trivial⟩
  | [x, y] =>
    rw [hb] at hf h
    obtain ⟨a, b, c⟩ := hf x (by simp)
    obtain ⟨a', b', c'⟩ := hf y (by simp)
    have hne : y.1 ≠ x.1 := by
      simp only [ownGo, Bool.and_eq_true, Bool.and_true] at h
      have h2 := h.2
      unfold ownB at h2
      simp only [Bool.not_eq_true', Bool.or_eq_false_iff, Bool.and_eq_false_iff, decide_eq_false_iff_not] at h2
      rcases h2.2.2.2 with h3 | h3
      · omega
      · exact fun e => h3 e.symm
    exact ⟨a, by omega, by omega, c, by simpa using hne, a', by omega, by omega, c', by simp, trivial⟩
  | x :: y :: z :: r => rw [hb] at hl; simp at hl

/-- What is owned, and what stands not behind i, stays. -/
def Le (i : Int) (a b : List Ar) : Prop := b.length = a.length ∧ ∀ j : Nat, ((arAt a j).owned = true ∨ (j : Int) ≤ i) → arAt b j = arAt a j
theorem Le.refl (i : Int) (a : List Ar) : Le i a a := ⟨rfl, fun _ _ => rfl⟩
theorem Le.trans {i : Int} {a b c : List Ar} (h : Le i a b) (k : Le i b c) : Le i a c := ⟨k.1.trans h.1, fun j hj => by
  have e := h.2 j hj
  rw [← e]
  refine k.2 j ?_
  rcases hj with hj | hj
  · rw [e]; exact .inl hj
  · exact .inr hj⟩
theorem Le.weak {i i' : Int} {a b : List Ar} (h : Le i a b) (k : i' ≤ i) : Le i' a b := ⟨h.1, fun j hj => h.2 j (by
  rcases hj with hj | hj
  · exact .inl hj
  · exact .inr (by omega))⟩
theorem set_le {num : Int} {ar : List Ar} {x : Nat} {a : Ar} (hx : x < ar.length) (ho : (arAt ar x).owned = false) (hn : num < (x : Int)) : Le num ar (ar.set x a) := ⟨by simp, fun j hj => by
  rw [arAt_set hx]
  by_cases h : j = x
  · subst h
    rcases hj with hj | hj
    · rw [ho] at hj; cases hj
    · omega
  · rw [if_neg h]⟩
theorem arGo_le {k : Bk} {l : List Int} {o : OpA} {num : Int} : ∀ {bs : List (Int × Int)} {ar : List Ar}, Free num ar bs → Le num ar (arGo k l o ar bs) := by
  intro bs
  induction bs with
  | nil => intro ar _; exact Le.refl _ _
  | cons x r ih =>
    rintro ar ⟨h1, h2, h3, h4, h5, h6⟩
    have hx : x.1.toNat < ar.length := by omega
    simp only [arGo]
    exact (set_le hx h4 (by omega)).trans (ih (h6.set hx fun y hy => by have := h5 y hy; omega))

/-! ### How deep -/
def sumI : List Int → Int
  | [] => 0
  | x :: r => x + sumI r
theorem sumI_app (a b : List Int) : sumI (a ++ b) = sumI a + sumI b := by
  induction a with
  | nil => simp [sumI]
  | cons x r ih => simp only [List.cons_append, sumI, ih]; omega
theorem sumI_pos : ∀ {l : List Int}, (∀ x ∈ l, 0 ≤ x) → 0 ≤ sumI l := by
  intro l
  induction l with
  | nil => intro _; simp [sumI]
  | cons x r ih =>
    intro h
    have := ih fun y hy => h y (by simp [hy])
    have := h x (by simp)
    simp only [sumI]
    omega
theorem last_eq {l : List Int} (hl : 0 < l.length) : l = l.dropLast ++ [lastI l] := by
  have hne : l ≠ [] := by intro h; rw [h] at hl; simp at hl
  have e : lastI l = l.getLast hne := by
    unfold lastI
    rw [List.getD_eq_getElem?_getD, ← List.getLast?_eq_getElem?, List.getLast?_eq_some_getLast hne]
    rfl
  rw [e]
  exact (List.dropLast_concat_getLast hne).symm
theorem setLast_eq {l : List Int} (hl : 0 < l.length) (x : Int) : setLast l x = l.dropLast ++ [x] := by
  have e := last_eq hl
  unfold setLast
  conv => lhs; rw [e]
  rw [List.set_append_right _ _ (by simp)]
  simp
structure Dep (d0 : Int) (k : Bk) (l : List Int) : Prop where
  sum : k.depth = d0 + sumI l
  pos : ∀ x ∈ l, 0 ≤ x
  d0 : 0 ≤ d0
  top : k.depth ≤ 64
  len : 0 < l.length
theorem wr_small {x : Int} (h0 : 0 ≤ x) (h : x ≤ 1000) : wr x = x := wrap64 h0 (by omega)
theorem Dep.ge {d0 : Int} {k : Bk} {l : List Int} (h : Dep d0 k l) : d0 ≤ k.depth := by
  have := sumI_pos h.pos
  have := h.sum
  omega
theorem Dep.done {d0 : Int} {k : Bk} {l : List Int} (h : Dep d0 k l) {p : PrA} {i : Nat} {o : OpA} {ar : List Ar} (hE : opE p i o k l ar = 0) : Dep d0 (doneK p i o k l).1 (doneK p i o k l).2 := by
  obtain ⟨e1, e2, e3, e4, e5, e6⟩ := opE_zero hE
  obtain ⟨h1, h2, h3, h4, h5⟩ := h
  have hl := last_eq h5
  have hsum : sumI l = sumI l.dropLast + lastI l := by
    have e := congrArg sumI hl
    rw [sumI_app] at e
    simpa [sumI] using e
  have hpd : ∀ x ∈ l.dropLast, 0 ≤ x := fun x hx => h2 x ((List.dropLast_sublist l).subset hx)
  have hlast : 0 ≤ lastI l := h2 _ (by
    have e : lastI l ∈ l.dropLast ++ [lastI l] := by simp
    rwa [← hl] at e)
  have hspd := sumI_pos hpd
  unfold doneK
  by_cases k3 : o.k = 3
  · rw [if_pos k3]
    exact ⟨by rw [sumI_app]; simpa [sumI] using h1, fun x hx => by
      rcases List.mem_append.1 hx with hx | hx
      · exact h2 x hx
      · simp at hx; omega, h3, h4, by simp⟩
  rw [if_neg k3]
  by_cases k4 : o.k = 4 ∨ o.k = 5
  · rw [if_pos k4]; exact ⟨h1, h2, h3, h4, h5⟩
  rw [if_neg k4]
  by_cases k6 : o.k = 6
  · rw [if_pos k6]
    obtain ⟨s1, s2⟩ := shape_facts e3 k6
    exact ⟨by show k.depth = d0 + sumI l.dropLast; omega, hpd, h3, h4, by simp; omega⟩
  rw [if_neg k6]
  by_cases k11 : o.k = 11
  · rw [if_pos k11]
    unfold deepA at e5
    rw [if_pos k11, decide_eq_false_iff_not] at e5
    have w : wr (k.depth + 1) = k.depth + 1 := wr_small (by omega) (by omega)
    have w2 : wr (lastI l + 1) = lastI l + 1 := wr_small (by omega) (by omega)
    rw [show IntKind.wrap .i64 (k.depth + 1) = k.depth + 1 from w] at e5
    refine ⟨?_, fun x hx => ?_, h3, ?_, by rw [setLast_eq h5]; simp⟩
    · show wr (k.depth + 1) = d0 + sumI (setLast l (wr (lastI l + 1)))
      rw [w, w2, setLast_eq h5, sumI_app]
      simp only [sumI]
      omega
    · rw [setLast_eq h5, w2] at hx
      rcases List.mem_append.1 hx with hx | hx
      · exact hpd x hx
      · simp at hx; omega
    · show wr (k.depth + 1) ≤ 64
      omega
  rw [if_neg k11]
  by_cases k12 : o.k = 12
  · rw [if_pos k12]
    have ha : o.a ≤ lastI l := by
      unfold shapeA at e3
      rw [if_neg k3, if_neg (by omega), if_neg k4, if_neg k6, if_pos k12] at e3
      exact of_decide_eq_true e3
    have ha1 : 1 ≤ o.a := by
      unfold formA at e1
      rw [Bool.and_eq_true, Bool.and_eq_true] at e1
      have := e1.2.2
      unfold kindA at this
      rw [if_neg (by omega), if_neg (by omega), if_neg (by omega), if_neg (by omega), if_neg (by omega), if_neg (by omega), if_pos k12, Bool.and_eq_true] at this
      exact of_decide_eq_true this.2
    have w : wr (k.depth - o.a) = k.depth - o.a := wr_small (by omega) (by omega)
    have w2 : wr (lastI l - o.a) = lastI l - o.a := wr_small (by omega) (by omega)
    refine ⟨?_, fun x hx => ?_, h3, ?_, by rw [setLast_eq h5]; simp⟩
    · show wr (k.depth - o.a) = d0 + sumI (setLast l (wr (lastI l - o.a)))
      rw [w, w2, setLast_eq h5, sumI_app]
      simp only [sumI]
      omega
    · rw [setLast_eq h5, w2] at hx
      rcases List.mem_append.1 hx with hx | hx
      · exact hpd x hx
      · simp at hx; omega
    · show wr (k.depth - o.a) ≤ 64
      omega
  rw [if_neg k12]
  exact ⟨h1, h2, h3, h4, h5⟩

/-- How deep a block is that an operation takes. -/
theorem more_pos {o : OpA} {x : Int × Int} (h : x ∈ belongsA o) : 0 ≤ x.2 ∧ x.2 ≤ ((o.l.length : Nat) : Int) + 2 := by
  unfold belongsA at h
  split at h
  · simp only [someA, List.mem_map] at h
    obtain ⟨y, _, rfl⟩ := h
    simp only
    omega
  · split at h
    · simp at h; rw [h]; simp only; omega
    · split at h
      · simp at h; rw [h]; simp only; omega
      · simp at h
theorem take_depth {d0 : Int} {k : Bk} {l : List Int} (h : Dep d0 k l) {p : PrA} {i : Nat} {o : OpA} {ar : List Ar} (hE : opE p i o k l ar = 0) {x : Int × Int} (hx : x ∈ belongsA o) : wr (k.depth + x.2) = k.depth + x.2 ∧ 0 ≤ x.2 ∧ k.depth + x.2 ≤ 64 := by
  obtain ⟨e1, e2, e3, e4, e5, e6⟩ := opE_zero hE
  obtain ⟨m1, m2⟩ := more_pos hx
  have hll : o.l.length ≤ 64 := by
    unfold formA at e1
    simp only [Bool.and_eq_true, Bool.not_eq_true', Bool.or_eq_false_iff, decide_eq_false_iff_not] at e1
    omega
  have hg := h.ge
  have ht := h.top
  have h0 := h.d0
  have w : wr (k.depth + x.2) = k.depth + x.2 := wr_small (by omega) (by omega)
  have hk : ¬ o.k = 11 := by
    intro hk
    unfold belongsA at hx
    rw [if_neg (by omega), if_neg (by omega), if_neg (by omega)] at hx
    simp at hx
  unfold deepA at e5
  rw [if_neg hk, List.any_eq_false] at e5
  have := e5 x hx
  simp only [decide_eq_true_eq] at this
  rw [show IntKind.wrap .i64 (k.depth + x.2) = k.depth + x.2 from w] at this
  exact ⟨w, m1, by omega⟩

/-! ### All blocks -/
theorem ops_le {p : PrA} {n : Int} : ∀ {os : List OpA} {i : Nat} {k : Bk} {l : List Int} {ar : List Ar}, (opsGo p os i k l ar).1 = none → k.num = n → 0 ≤ n → ar.length = p.blocks.length → 0 < l.length → Le n ar (opsGo p os i k l ar).2.2.2 := by
  intro os
  induction os with
  | nil => intro i k l ar _ _ _ _ _; exact Le.refl _ _
  | cons o r ih =>
    intro i k l ar h hk hn har hl
    simp only [opsGo] at h ⊢
    by_cases hE : opE p i o k l ar = 0
    · rw [if_pos hE] at h ⊢
      obtain ⟨e1, e2, e3, e4, e5, e6⟩ := opE_zero hE
      obtain ⟨d1, d2, d3, d4, d5⟩ := doneK_len (p := p) (i := i) (k := k) hl (fun h6 => (shape_facts e3 h6).1)
      have hf := own_free e4 (by omega) har
      rw [hk] at hf
      exact (arGo_le hf).trans (ih h (by rw [d3, hk]) hn (by rw [arGo_len]; exact har) d1)
    · rw [if_neg hE] at h
      cases h
theorem look_ok {p : PrA} {b : BlA} {k : Bk} {l : List Int} {ar : List Ar} (h : (lookA p b k l ar).1.2 = 0) : ¬ (0 < k.num ∧ k.inn.owned = false) ∧ b.depth = k.inn.depth ∧ (opsGo p b.ops 0 k l ar).1 = none ∧ (endA b (opsGo p b.ops 0 k l ar).2.1 (opsGo p b.ops 0 k l ar).2.2.1).2 = 0 ∧ (lookA p b k l ar).2 = (opsGo p b.ops 0 k l ar).2.2.2 := by
  unfold lookA at h ⊢
  by_cases h1 : 0 < k.num ∧ k.inn.owned = false
  · rw [if_pos h1] at h; cases h
  rw [if_neg h1] at h ⊢
  by_cases h2 : b.depth = k.inn.depth
  · rw [if_neg (fun h => h h2)] at h ⊢
    cases ho : (opsGo p b.ops 0 k l ar).1 with
    | some e =>
      rw [ho] at h
      exact absurd h (opsGo_err ho)
    | none =>
      rw [ho] at h
      exact ⟨h1, h2, rfl, h, rfl⟩
  · rw [if_pos h2] at h; cases h
/-- What is around the blocks at the end. -/
noncomputable def blkAr (p : PrA) : List BlA → Nat → List Ar → List Ar
  | [], _, ar => ar
  | b :: r, i, ar => blkAr p r (i + 1) (lookA p b (mkBk i .nilp (arAt ar i)) [0] ar).2
theorem blk_step {p : PrA} {b : BlA} {r : List BlA} {i : Nat} {ar : List Ar} (h : (blkGo p (b :: r) i ar).2.2 = 0) : (lookA p b (mkBk i .nilp (arAt ar i)) [0] ar).1.2 = 0 ∧ (blkGo p r (i + 1) (lookA p b (mkBk i .nilp (arAt ar i)) [0] ar).2).2.2 = 0 := by
  simp only [blkGo] at h
  by_cases hE : (lookA p b (mkBk i .nilp (ar.getD i default)) [0] ar).1.2 = 0
  · rw [if_pos hE] at h
    exact ⟨hE, h⟩
  · rw [if_neg hE] at h
    exact absurd h hE
theorem blk_le {p : PrA} : ∀ {bs : List BlA} {i : Nat} {ar : List Ar}, (blkGo p bs i ar).2.2 = 0 → ar.length = p.blocks.length → Le ((i : Nat) : Int) ar (blkAr p bs i ar) := by
  intro bs
  induction bs with
  | nil => intro i ar _ _; exact Le.refl _ _
  | cons b r ih =>
    intro i ar h har
    obtain ⟨h1, h2⟩ := blk_step h
    obtain ⟨a, b', c, d, e⟩ := look_ok h1
    have hle := ops_le c (n := ((i : Nat) : Int)) rfl (by omega) har (by simp)
    rw [← e] at hle
    exact hle.trans ((ih h2 (by rw [lookA_len]; exact har)).weak (by omega))
/-- Each block is as deep as where it belongs, and belongs to one. -/
theorem blk_final {p : PrA} : ∀ {bs : List BlA} {i : Nat} {ar : List Ar}, (blkGo p bs i ar).2.2 = 0 → ar.length = p.blocks.length → ∀ j, j < bs.length → (bs.getD j default).depth = (arAt (blkAr p bs i ar) (i + j)).depth ∧ (0 < i + j → (arAt (blkAr p bs i ar) (i + j)).owned = true) := by
  intro bs
  induction bs with
  | nil => intro i ar _ _ j hj; simp at hj
  | cons b r ih =>
    intro i ar h har j hj
    have hle := blk_le h har
    obtain ⟨h1, h2⟩ := blk_step h
    obtain ⟨a, b', c, d, e⟩ := look_ok h1
    cases j with
    | zero =>
      rw [Nat.add_zero, hle.2 i (.inr (Int.le_refl _))]
      refine ⟨b', fun h0 => ?_⟩
      cases ho : (arAt ar i).owned with
      | true => rfl
      | false => exact absurd ⟨by show (0 : Int) < ((i : Nat) : Int); omega, ho⟩ a
    | succ j =>
      have := ih h2 (by rw [lookA_len]; exact har) j (by simpa using hj)
      rw [show i + (j + 1) = i + 1 + j by omega]
      exact this
end Go.Proofs.YtcgepgahgihojaaDoor
