/- Programs: where an operation stands, which blocks belong to it, how deep it goes. -/
import Derived.Test.YtcgepgahgihojaaDoorVP
namespace Go.Proofs.YtcgepgahgihojaaDoor
open Go.St Go.Lib
set_option linter.unusedVariables false
set_option linter.unusedSimpArgs false

theorem via {a b : Option Res} {X : Sto → Option Res} {Q : Sto → Prop} (h : a = b) (k : ∃ S', b = X S' ∧ Q S') : ∃ S', a = X S' ∧ Q S' := by rw [h]; exact k

section
variable {p : PrA} {P V A O B : Nat} {tx cd sx bl : AV} {S : Sto} {k : Bk} {g : Nat} {lets : List Int} {ar : List Ar}

/-- The pointer to the OpLets that are not dropped. -/
theorem lets_spec (hN : Now P V A O B k g lets ar S) (hl : 0 < lets.length) (hl2 : lets.length ≤ 1050000) : CallR ap 23 [.mp B 0 0] S = some (.ret (.mp O g (lets.length - 1)), S) := by
  have hBl := (List.getElem?_eq_some_iff.1 hN.hB).1
  have h4 := hN.n4
  have w1 : IntKind.wrap .i64 (((lets.length : Nat) : Int) - 1) = ((lets.length - 1 : Nat) : Int) := w64 _ (by omega) (by omega)
  have hia : ia 1 (.ms O g 0 lets.length 1) (.int .i64 ((lets.length - 1 : Nat) : Int)) = some (.mp O g (lets.length - 1)) := by
    simp only [ia, if_true, idx_nat (show lets.length - 1 < lets.length by omega), Option.bind_some, Nat.zero_add, Nat.mul_one]
  rw [verify_block_lets.call]
  refine ret_keep ?_ rfl (by simp only [AV.old, decide_eq_true_eq]; omega) (Keeps.refl _ _)
  rw [verify_block_lets.b_eq]
  refine (rdM hN.hB rfl).trans ?_
  refine (rdM hN.hB rfl).trans ?_
  refine (br (show lenL (.ms O g 0 lets.length 1) = some lets.length from rfl)).trans ?_
  rw [w1]
  exact br hia

def lastI (l : List Int) : Int := l.getD (l.length - 1) 0
theorem lets_get (hN : Now P V A O B k g lets ar S) (hl : 0 < lets.length) : ld false 1 S (.mp O g (lets.length - 1)) = some (.int .i64 (lastI lets)) := by
  obtain ⟨junk, hO⟩ := hN.hO
  refine m_get hO ?_
  have h : lets.length - 1 < lets.length := by omega
  rw [List.getElem?_append_left (by simpa [hcellsI] using h)]
  simp only [hcellsI, List.getElem?_map, List.getElem?_eq_getElem h, Option.map_some, lastI, List.getD_eq_getElem?_getD, Option.getD_some]

/-! ### deep -/
def deepA (k : Bk) (o : OpA) : Bool := if o.k = 11 then decide (64 < IntKind.wrap .i64 (k.depth + 1)) else (belongsA o).any fun c => decide (64 < IntKind.wrap .i64 (k.depth + c.2))

theorem belongsA_len (o : OpA) : (belongsA o).length ≤ 2 := by
  unfold belongsA
  split
  · simp only [someA, List.length_map]
    exact Nat.le_trans (List.length_filter_le _ _) (by simp)
  · repeat' split
    all_goals simp

theorem deep_loop {o : OpA} {cv : AV} (hc : InsV (belongsA o) cv) {n0 : Nat} : ∀ (m i : Nat) (S : Sto), i + m = (belongsA o).length → n0 ≤ S.length → Now P V A O B k g lets ar S →
    ∃ S', verify_block_deep.p110100 (.mp B 0 0) cv (((belongsA o).length : Nat) : Int) ((i : Nat) : Int) S = some ⟨.ret (.bool (((belongsA o).drop i).any fun c => decide (64 < IntKind.wrap .i64 (k.depth + c.2)))), none, S'⟩ ∧ Keeps n0 S S' := by
  have hbl := belongsA_len o
  intro m
  induction m with
  | zero =>
    intro i S him hn0 hN
    have hi : i = (belongsA o).length := by omega
    subst hi
    refine ⟨S, ?_, Keeps.refl _ _⟩
    rw [verify_block_deep.p110100_eq, List.drop_length]
    exact bf (dfalse (by omega))
  | succ m ih =>
    intro i S him hn0 hN
    have hi : i < (belongsA o).length := by omega
    obtain ⟨x, hx, hd⟩ := drop_pair hi
    have hia := ins_at hc hx
    have w1 : IntKind.wrap .i64 (((i : Nat) : Int) + 1) = ((i + 1 : Nat) : Int) := w64 _ (by omega) (by omega)
    obtain ⟨S1, hS1⟩ : ∃ S1, S1 = S ++ [Ob.cells 0 [.int .i64 x.1, .int .i64 x.2] 0] := ⟨_, rfl⟩
    have hN1 : Now P V A O B k g lets ar S1 := by rw [hS1]; exact hN.mono ap_get
    have hk1 : Keeps n0 S S1 := by rw [hS1]; exact Keeps.app hn0
    have hl1 : S.length ≤ S1.length := by rw [hS1]; simp
    have go : ∀ R, (bif decide (64 < IntKind.wrap .i64 (k.depth + x.2)) then some ⟨.ret (.bool true), none, S1⟩ else verify_block_deep.p110100 (.mp B 0 0) cv (((belongsA o).length : Nat) : Int) ((i + 1 : Nat) : Int) S1) = R → verify_block_deep.p110100 (.mp B 0 0) cv (((belongsA o).length : Nat) : Int) ((i : Nat) : Int) S = R := by
      intro R hR
      rw [verify_block_deep.p110100_eq]
      refine (bt (dtrue (by omega))).trans ?_
      refine (br hia).trans ?_
      refine (br (l2 _ _ _)).trans ?_
      refine (br (pair_new _ _ _)).trans ?_
      rw [← hS1]
      refine (rdM hN1.hB (k := 8) rfl).trans ?_
      refine (br (pair_at1 _)).trans ?_
      refine (br (by rw [hS1]; exact pair_get1 _ _ _)).trans ?_
      refine (br (aI _)).trans ?_
      refine (br (aI _)).trans ?_
      rw [w1]
      exact hR
    by_cases hb : 64 < IntKind.wrap .i64 (k.depth + x.2)
    · refine ⟨S1, ?_, hk1⟩
      refine go _ ?_
      refine (bt (dtrue hb)).trans ?_
      rw [hd, List.any_cons, dtrue hb]
      rfl
    · obtain ⟨S', e1, e2⟩ := ih (i + 1) S1 (by omega) (by omega) hN1
      refine ⟨S', ?_, hk1.trans e2⟩
      refine go _ ?_
      refine (bf (dfalse hb)).trans ?_
      rw [e1, hd, List.any_cons, dfalse hb, Bool.false_or]

theorem deep_spec (hN : Now P V A O B k g lets ar S) {o : OpA} {lv : AV} (hl : IntV o.l lv) : CallR ap 36 [.mp B 0 0, .ip (oc o lv)] S = some (.ret (.bool (deepA k o)), S) := by
  rw [verify_block_deep.call]
  suffices hb : ∃ S', verify_block_deep.b (.mp B 0 0) (.ip (oc o lv)) S = some ⟨.ret (.bool (deepA k o)), none, S'⟩ ∧ Keeps S.length S S' by
    obtain ⟨S', k1, k2⟩ := hb
    exact ret_keep k1 rfl rfl k2
  rw [verify_block_deep.b_eq]
  unfold deepA
  by_cases h : o.k = 11
  · rw [if_pos h]
    refine ⟨S, ?_, Keeps.refl _ _⟩
    refine (rdO (k := 0) rfl).trans ?_
    refine (br (aI _)).trans ?_
    refine (bt (dtrue h)).trans ?_
    refine (rdM hN.hB (k := 8) rfl).trans ?_
    exact br (aI _)
  · rw [if_neg h]
    obtain ⟨cv, hc, hcv⟩ := belongs_spec hl S
    obtain ⟨S', e1, e2⟩ := deep_loop hcv (n0 := S.length) (belongsA o).length 0 S (by omega) (Nat.le_refl _) hN
    refine ⟨S', ?_, e2⟩
    refine (rdO (k := 0) rfl).trans ?_
    refine (br (aI _)).trans ?_
    refine (bf (dfalse h)).trans ?_
    refine (cr hc).trans ?_
    refine (br hcv.len).trans ?_
    exact e1

/-! ### owns -/
def owned (ar : List Ar) (x : Int) : Bool := (ar.getD x.toNat default).owned
def ownB (num : Int) (n : Nat) (ar : List Ar) (all : List (Int × Int)) (i : Nat) (x : Int × Int) : Bool :=
  !(decide (x.1 ≤ num) || (decide ((n : Int) ≤ x.1) || (owned ar x.1 || (decide (0 < i) && decide ((all.getD 0 (0, 0)).1 = x.1)))))
def ownGo (num : Int) (n : Nat) (ar : List Ar) (all : List (Int × Int)) : Nat → List (Int × Int) → Bool
  | _, [] => true
  | i, x :: r => ownB num n ar all i x && ownGo num n ar all (i + 1) r
def ownsA (k : Bk) (p : PrA) (ar : List Ar) (o : OpA) : Bool := ownGo k.num p.blocks.length ar (belongsA o) 0 (belongsA o)

theorem ar_len (l : List Ar) : (arcells l).length = l.length * 5 := by
  induction l with
  | nil => rfl
  | cons x r ih => simp only [arcells, List.length_append, arc, List.length_cons, List.length_nil, ih]; omega
theorem ar_app (a b : List Ar) : arcells (a ++ b) = arcells a ++ arcells b := by
  induction a with
  | nil => rfl
  | cons x r ih => simp only [List.cons_append, arcells, ih, List.append_assoc]
theorem ar_split {l : List Ar} {i : Nat} (hi : i < l.length) : l = l.take i ++ l.getD i default :: l.drop (i + 1) := by
  have : l.getD i default = l[i] := by rw [List.getD_eq_getElem?_getD, List.getElem?_eq_getElem hi]; rfl
  rw [this, ← List.drop_eq_getElem_cons hi, List.take_append_drop]
theorem ar_cell {l : List Ar} {i j : Nat} (hi : i < l.length) {c : AV} (hj : (arc (l.getD i default))[j]? = some c) : (arcells l)[i * 5 + j]? = some c := by
  have hj5 : j < 5 := (List.getElem?_eq_some_iff.1 hj).1
  have ht : (arcells (l.take i)).length = i * 5 := by rw [ar_len, List.length_take]; congr 1; omega
  have hsp : arcells l = arcells (l.take i) ++ arcells (l.getD i default :: l.drop (i + 1)) := by rw [← ar_app, ← ar_split hi]
  rw [hsp, ← ht, List.getElem?_append_right (by omega), Nat.add_sub_cancel_left]
  simp only [arcells]
  rw [List.getElem?_append_left (by simpa [arc] using hj5)]
  exact hj
theorem ar_ptr {l : List Ar} {i : Nat} (hi : i < l.length) : ia 5 (.ms A 0 0 l.length 5) (.int .i64 ((i : Nat) : Int)) = some (.mp A 0 (i * 5)) := by
  simp only [ia, if_true, idx_nat hi, Option.bind_some, Nat.zero_add]

theorem own_loop {o : OpA} {cv : AV} (hc : InsV (belongsA o) cv) (har : ar.length = p.blocks.length) (hnum : 0 ≤ k.num) {n0 : Nat} : ∀ (m i : Nat) (S : Sto), i + m = (belongsA o).length → n0 ≤ S.length → P + 1 ≤ S.length → Prg p P tx cd sx bl S → Now P V A O B k g lets ar S →
    ∃ S', verify_block_owns.p110100 (.mp B 0 0) cv cv (((belongsA o).length : Nat) : Int) ((i : Nat) : Int) S = some ⟨.ret (.bool (ownGo k.num p.blocks.length ar (belongsA o) i ((belongsA o).drop i))), none, S'⟩ ∧ Keeps n0 S S' := by
  have hbl := belongsA_len o
  intro m
  induction m with
  | zero =>
    intro i S him hn0 hPl H hN
    have hi : i = (belongsA o).length := by omega
    subst hi
    refine ⟨S, ?_, Keeps.refl _ _⟩
    rw [verify_block_owns.p110100_eq, List.drop_length]
    exact bf (dfalse (by omega))
  | succ m ih =>
    intro i S him hn0 hPl H hN
    have hi : i < (belongsA o).length := by omega
    obtain ⟨x, hx, hd⟩ := drop_pair hi
    have hia := ins_at hc hx
    have w1 : IntKind.wrap .i64 (((i : Nat) : Int) + 1) = ((i + 1 : Nat) : Int) := w64 _ (by omega) (by omega)
    obtain ⟨S1, hS1⟩ : ∃ S1, S1 = S ++ [Ob.cells 0 [.int .i64 x.1, .int .i64 x.2] 0] := ⟨_, rfl⟩
    have H1 : Prg p P tx cd sx bl S1 := by rw [hS1]; exact H.mono (Keeps.app hPl)
    have hN1 : Now P V A O B k g lets ar S1 := by rw [hS1]; exact hN.mono ap_get
    have hk1 : Keeps n0 S S1 := by rw [hS1]; exact Keeps.app hn0
    have hl1 : S.length ≤ S1.length := by rw [hS1]; simp
    have hp0 : ld false 1 S1 (.mp S.length 0 0) = some (.int .i64 x.1) := by rw [hS1]; exact pair_get0 _ _ _
    have out : ∀ b, b = !ownB k.num p.blocks.length ar (belongsA o) i x → ∃ S', verify_block_owns.p110100110011 (.mp B 0 0) cv cv (((belongsA o).length : Nat) : Int) ((i : Nat) : Int) b S1 = some ⟨.ret (.bool (ownGo k.num p.blocks.length ar (belongsA o) i ((belongsA o).drop i))), none, S'⟩ ∧ Keeps n0 S1 S' := by
      intro b hb
      rw [verify_block_owns.p110100110011_eq, hd, w1]
      cases hob : ownB k.num p.blocks.length ar (belongsA o) i x with
      | false =>
        rw [hob] at hb
        subst hb
        exact ⟨S1, (bt rfl).trans (by simp only [ownGo, hob, Bool.false_and]), Keeps.refl _ _⟩
      | true =>
        rw [hob] at hb
        subst hb
        obtain ⟨S', e1, e2⟩ := ih (i + 1) S1 (by omega) (by omega) (by omega) H1 hN1
        exact ⟨S', (bf rfl).trans (by rw [e1]; simp only [ownGo, hob, Bool.true_and]), e2⟩
    have hz : ∃ y, (belongsA o)[0]? = some y := ⟨_, List.getElem?_eq_getElem (by omega)⟩
    obtain ⟨y, hy⟩ := hz
    have hy0 : (belongsA o).getD 0 (0, 0) = y := by rw [List.getD_eq_getElem?_getD, hy]; rfl
    have hia0 := ins_at hc hy
    rw [verify_block_owns.p110100_eq]
    refine via (bt (dtrue (by omega))) ?_
    refine via (br hia) ?_
    refine via (br (l2 _ _ _)) ?_
    refine via (br (pair_new _ _ _)) ?_
    rw [← hS1]
    refine via (br (pair_at0 _)) ?_
    refine via (br hp0) ?_
    refine via (rdM hN1.hB (k := 1) rfl) ?_
    refine via (br (aI _)) ?_
    refine via (br (aI _)) ?_
    have fin : ∀ b, b = (!ownB k.num p.blocks.length ar (belongsA o) i x) → ∃ S', verify_block_owns.p110100110011 (.mp B 0 0) cv cv (((belongsA o).length : Nat) : Int) ((i : Nat) : Int) b S1 = some ⟨.ret (.bool (ownGo k.num p.blocks.length ar (belongsA o) i ((belongsA o).drop i))), none, S'⟩ ∧ Keeps n0 S S' := fun b hb => by
      obtain ⟨S', e1, e2⟩ := out b hb
      exact ⟨S', e1, hk1.trans e2⟩
    by_cases h1 : x.1 ≤ k.num
    · refine via (bt (dtrue h1)) ?_
      exact fin true (by simp [ownB, h1])
    · refine via (bf (dfalse h1)) ?_
      refine via (br (pair_at0 _)) ?_
      refine via (br hp0) ?_
      refine via (rdM hN1.hB (k := 0) rfl) ?_
      refine via (rdM hN1.hV (k := 0) rfl) ?_
      refine via (rdM H1.hP (k := 3) rfl) ?_
      refine via (br H1.hB.1) ?_
      refine via (br (aI _)) ?_
      by_cases h2 : ((p.blocks.length : Nat) : Int) ≤ x.1
      · refine via (bt (dtrue h2)) ?_
        exact fin true (by simp [ownB, h2])
      · refine via (bf (dfalse h2)) ?_
        refine via (rdM hN1.hB (k := 0) rfl) ?_
        refine via (rdM hN1.hV (k := 1) rfl) ?_
        refine via (br (pair_at0 _)) ?_
        refine via (br hp0) ?_
        obtain ⟨w, hw⟩ : ∃ w : Nat, x.1 = (w : Int) := ⟨x.1.toNat, by omega⟩
        have hwl : w < ar.length := by omega
        have htn : x.1.toNat = w := by omega
        refine via (br (show ia 5 (.ms A 0 0 ar.length 5) (.int .i64 x.1) = some (.mp A 0 (w * 5)) by rw [hw]; exact ar_ptr hwl)) ?_
        refine via (br (show fa 0 1 (.mp A 0 (w * 5)) = some (.mp A 0 (w * 5 + 0)) from rfl)) ?_
        refine via (br (m_get hN1.hA (ar_cell hwl (j := 0) rfl))) ?_
        refine via (br (aB _)) ?_
        cases how : (ar.getD w default).owned with
        | true =>
          refine via (bt rfl) ?_
          exact fin true (by simp only [ownB, owned, htn, how, Bool.true_or, Bool.or_true, Bool.not_true, Bool.not_false])
        | false =>
          refine via (bf rfl) ?_
          have e2 : ownB k.num p.blocks.length ar (belongsA o) i x = !(decide (0 < i) && decide (y.1 = x.1)) := by
            unfold ownB owned
            rw [hy0, htn, how, dfalse h1, dfalse h2]
            simp only [Bool.false_or]
          by_cases h0 : (0 : Int) < ((i : Nat) : Int)
          · refine via (bt (dtrue h0)) ?_
            refine via (br hia0) ?_
            refine via (br (show iaArr 2 1 (.ip [.int .i64 y.1, .int .i64 y.2]) (.int .i64 0) = some (.ip [.int .i64 y.1]) from rfl)) ?_
            refine via (br (l1 _ _)) ?_
            refine via (br (pair_at0 _)) ?_
            refine via (br hp0) ?_
            refine via (br (aI _)) ?_
            refine via (br (aI _)) ?_
            exact fin _ (by rw [e2, Bool.not_not, dtrue (show 0 < i by omega), Bool.true_and])
          · refine via (bf (dfalse h0)) ?_
            exact fin false (by rw [e2, Bool.not_not, dfalse (show ¬ 0 < i by omega), Bool.false_and])

theorem owns_spec (H : Prg p P tx cd sx bl S) (hN : Now P V A O B k g lets ar S) (har : ar.length = p.blocks.length) (hnum : 0 ≤ k.num) {o : OpA} {lv : AV} (hl : IntV o.l lv) : CallR ap 35 [.mp B 0 0, .ip (oc o lv)] S = some (.ret (.bool (ownsA k p ar o)), S) := by
  have hPl := (List.getElem?_eq_some_iff.1 H.hP).1
  rw [verify_block_owns.call]
  suffices hb : ∃ S', verify_block_owns.b (.mp B 0 0) (.ip (oc o lv)) S = some ⟨.ret (.bool (ownsA k p ar o)), none, S'⟩ ∧ Keeps S.length S S' by
    obtain ⟨S', k1, k2⟩ := hb
    exact ret_keep k1 rfl rfl k2
  obtain ⟨cv, hc, hcv⟩ := belongs_spec hl S
  rw [verify_block_owns.b_eq]
  refine via (cr hc) ?_
  refine via (br hcv.len) ?_
  exact own_loop hcv har hnum (n0 := S.length) (belongsA o).length 0 S (by omega) (Nat.le_refl _) hPl H hN

/-! ### shape1 -/
abbrev wr (x : Int) : Int := IntKind.wrap .i64 x
def nestA (k : Bk) (lets : List Int) : Int := wr (wr (k.inn.nest + ((lets.length : Nat) : Int)) - 1)
def nth : Fo → Nat → Fo
  | .nil, _ => .nil
  | .cons a b c d _, 0 => .cons a b c d .nil
  | .cons _ _ _ _ r, i + 1 => nth r i
noncomputable def shapeA (p : PrA) (k : Bk) (lets : List Int) (i : Nat) (o : OpA) : Bool :=
  if o.k = 3 then decide (wr (nestA k lets + 1) ≤ 63)
  else if o.k = 7 then decide ((((look (nth p.statics o.a.toNat)).2.1 : Nat) : Int) ≤ wr (64 - nestA k lets))
  else if o.k = 4 ∨ o.k = 5 then !(!decide (k.opened = wr (((i : Nat) : Int) - 1)) || (decide (i = 0) || (!decide (k.name = ⟨#[]⟩) && !sLess k.name (p.texts.getD o.a.toNat ⟨#[]⟩))))
  else if o.k = 6 then decide (1 < lets.length) && decide (lastI lets = 0)
  else if o.k = 12 then decide (o.a ≤ lastI lets)
  else true

theorem nth_row : ∀ (ts : Fo) (row : List AV) (i : Nat), Row ts row → i < ts.len → (i + 1) * 4 ≤ row.length ∧ ∀ r, Row (nth ts i) (row.drop (i * 4) ++ r) ∧ Row (nth ts i) (row.drop (i * 4)) := by
  intro ts
  induction ts with
  | nil => intro row i _ h; simp [Fo.len] at h
  | cons tag text ats kids rest ihk ihr =>
    rintro row i ⟨a, kd, r0, rfl, h2, h3, h4⟩ hi
    cases i with
    | zero =>
      refine ⟨by simp, fun r => ⟨⟨a, kd, r0 ++ r, by simp, h2, h3, trivial⟩, ⟨a, kd, r0, by simp, h2, h3, trivial⟩⟩⟩
    | succ i =>
      obtain ⟨k1, k2⟩ := ihr r0 i h4 (by simp only [Fo.len] at hi; omega)
      refine ⟨by simp only [List.length_append, List.length_cons, List.length_nil]; omega, fun r => ?_⟩
      have : ((AV.str tag :: AV.str text :: a :: kd :: r0).drop ((i + 1) * 4)) = r0.drop (i * 4) := by
        rw [show (i + 1) * 4 = i * 4 + 4 by omega]
        rfl
      rw [this]
      exact k2 r
theorem nth_len : ∀ (ts : Fo) (i : Nat), i < ts.len → (nth ts i).len = 1 ∧ (nth ts i).sz ≤ ts.sz := by
  intro ts
  induction ts with
  | nil => intro i h; simp [Fo.len] at h
  | cons tag text ats kids rest ihk ihr =>
    intro i hi
    cases i with
    | zero => exact ⟨rfl, by simp only [nth, Fo.sz]; omega⟩
    | succ i =>
      obtain ⟨a, b⟩ := ihr i (by simp only [Fo.len] at hi; omega)
      exact ⟨a, by simp only [nth, Fo.sz]; omega⟩
theorem one_tree {ts : Fo} {v : AV} (h : FoM ts v) {i : Nat} (hi : i < ts.len) (hs : ts.sz ≤ 1050000) (hm : ∀ row n m, v = .is row n (.cut m) → n ≤ m) : ∃ w, cutL 4 v (some (.int .i64 ((i : Nat) : Int))) (some (.int .i64 ((i + 1 : Nat) : Int))) = some w ∧ FoV (nth ts i) w := by
  rcases h with ⟨h, _⟩ | ⟨row, tok, rfl, hl, hr⟩
  · omega
  · have hmost : ts.len ≤ tok.most ts.len := by
      cases tok with
      | cut m => exact hm _ _ _ rfl
      | _ => exact Nat.le_refl _
    have h1 : bnd ts.len (tok.most ts.len) (some (.int .i64 ((i + 1 : Nat) : Int))) = some (i + 1) := by
      unfold bnd
      simp only
      rw [if_pos (by omega)]
      simp
    have h2 : bnd 0 (i + 1) (some (.int .i64 ((i : Nat) : Int))) = some i := by
      unfold bnd
      simp only
      rw [if_pos (by omega)]
      simp
    refine ⟨.is (row.drop (i * 4)) (i + 1 - i) (tok.part ts.len (i + 1) i), ?_, ?_⟩
    · simp only [cutL, h1, h2, Option.bind_some, hl, if_true]
    · have := (nth_row ts row i hr hi).2 []
      refine .inr ⟨row.drop (i * 4), tok.part ts.len (i + 1) i, ?_, this.2⟩
      rw [(nth_len ts i hi).1, Nat.add_sub_cancel_left]

theorem shape_spec (H : Prg p P tx cd sx bl S) (hs : Small p) (hN : Now P V A O B k g lets ar S) (hl0 : 0 < lets.length) (hl1 : lets.length ≤ 1050000) (hm : ∀ row n m, sx = .is row n (.cut m) → n ≤ m) {o : OpA} {lv : AV} (hl : IntV o.l lv) (i : Nat)
    (hk7 : o.k = 7 → 0 ≤ o.a ∧ o.a < ((p.statics.len : Nat) : Int)) (hk4 : o.k = 4 ∨ o.k = 5 → 0 ≤ o.a ∧ o.a < ((p.texts.length : Nat) : Int)) :
    CallR ap 34 [.mp B 0 0, .int .i64 ((i : Nat) : Int), .ip (oc o lv)] S = some (.ret (.bool (shapeA p k lets i o)), S) := by
  rw [verify_block_shape1.call]
  refine ret_keep ?_ rfl rfl (Keeps.refl _ _)
  rw [verify_block_shape1.b_eq]
  have hlen : lenL (.ms O g 0 lets.length 1) = some lets.length := rfl
  refine (rdI hN.hB (j := 3) (k := 3) rfl).trans ?_
  refine (rdM hN.hB (k := 9) rfl).trans ?_
  refine (br hlen).trans ?_
  refine (br (aI _)).trans ?_
  refine (rdO (k := 0) rfl).trans ?_
  refine (br (aI _)).trans ?_
  unfold shapeA
  by_cases h3 : o.k = 3
  · rw [if_pos h3]
    exact bt (dtrue h3)
  rw [if_neg h3]
  refine (bf (dfalse h3)).trans ?_
  refine (br (aI _)).trans ?_
  by_cases h7 : o.k = 7
  · rw [if_pos h7]
    refine (bt (dtrue h7)).trans ?_
    refine (rdM hN.hB (k := 0) rfl).trans ?_
    refine (rdM hN.hV (k := 0) rfl).trans ?_
    refine (rdM H.hP (k := 2) rfl).trans ?_
    refine (rdO (k := 1) rfl).trans ?_
    refine (rdO (k := 1) rfl).trans ?_
    refine (br (aI _)).trans ?_
    obtain ⟨q1, q2⟩ := hk7 h7
    obtain ⟨w, hw⟩ : ∃ w : Nat, o.a = (w : Int) := ⟨o.a.toNat, by omega⟩
    have hsl := len_sz p.statics
    have hss := hs.s
    have w1 : IntKind.wrap .i64 (((w : Nat) : Int) + 1) = ((w + 1 : Nat) : Int) := w64 _ (by omega) (by omega)
    obtain ⟨t, c1, c2⟩ := one_tree H.hS (i := w) (by omega) hs.s hm
    rw [hw, w1]
    refine (br c1).trans ?_
    refine (cr (depth_spec c2 (by have := (nth_len p.statics w (by omega)).2; omega) S)).trans ?_
    refine (it rfl).trans ?_
    refine (br (aI _)).trans ?_
    rfl
  rw [if_neg h7]
  refine (bf (dfalse h7)).trans ?_
  refine (br (aI _)).trans ?_
  have tail : ∀ b, verify_block_shape1.p1101011111011 b S = some ⟨.ret (.bool (!b)), none, S⟩ := fun b => by
    rw [verify_block_shape1.p1101011111011_eq, verify_block_shape1.p111_eq]
    cases b <;> rfl
  have body : ∀ b, b = decide (o.k = 4 ∨ o.k = 5) → verify_block_shape1.p1101011111 (.mp B 0 0) ((i : Nat) : Int) (.ip (oc o lv)) (.int .i64 o.k) b S = some ⟨.ret (.bool (if o.k = 4 ∨ o.k = 5 then !(!decide (k.opened = wr (((i : Nat) : Int) - 1)) || (decide (i = 0) || (!decide (k.name = ⟨#[]⟩) && !sLess k.name (p.texts.getD o.a.toNat ⟨#[]⟩)))) else if o.k = 6 then decide (1 < lets.length) && decide (lastI lets = 0) else if o.k = 12 then decide (o.a ≤ lastI lets) else true)), none, S⟩ := by
    intro b hb
    rw [verify_block_shape1.p1101011111_eq]
    by_cases h4 : o.k = 4 ∨ o.k = 5
    · rw [dtrue h4] at hb
      subst hb
      rw [if_pos h4]
      obtain ⟨q1, q2⟩ := hk4 h4
      obtain ⟨w, hw⟩ : ∃ w : Nat, o.a = (w : Int) := ⟨o.a.toNat, by omega⟩
      obtain ⟨cs, hia, rfl⟩ := H.hT.2.2.2 w (by omega)
      refine (bt rfl).trans ?_
      refine (rdM hN.hB (k := 0) rfl).trans ?_
      refine (rdM hN.hV (k := 0) rfl).trans ?_
      refine (rdM H.hP (k := 0) rfl).trans ?_
      refine (rdO (k := 1) rfl).trans ?_
      rw [hw]
      refine (br hia).trans ?_
      refine (br (l1 _ _)).trans ?_
      refine (rdM hN.hB (k := 10) rfl).trans ?_
      refine (br (aI _)).trans ?_
      rw [Int.toNat_natCast]
      by_cases e1 : k.opened = IntKind.wrap .i64 (((i : Nat) : Int) - 1)
      · refine (bf (by rw [dtrue e1]; rfl)).trans ?_
        rw [show decide (k.opened = wr (((i : Nat) : Int) - 1)) = true from dtrue e1]
        by_cases e2 : i = 0
        · refine (bt (dtrue (by omega))).trans ?_
          rw [tail, dtrue e2]
          rfl
        · refine (bf (dfalse (by omega))).trans ?_
          rw [dfalse e2]
          refine (rdM hN.hB (k := 11) rfl).trans ?_
          refine (br (aS _)).trans ?_
          by_cases e3 : k.name = ⟨#[]⟩
          · refine (bf (by rw [dtrue e3]; rfl)).trans ?_
            rw [tail, dtrue e3]
            rfl
          · refine (bt (by rw [dfalse e3]; rfl)).trans ?_
            refine (rdM hN.hB (k := 11) rfl).trans ?_
            refine (br (aS _)).trans ?_
            refine (br (aS _)).trans ?_
            rw [tail, dfalse e3]
            rfl
      · refine (bt (by rw [dfalse e1]; rfl)).trans ?_
        rw [tail, show decide (k.opened = wr (((i : Nat) : Int) - 1)) = false from dfalse e1]
        rfl
    · rw [dfalse h4] at hb
      subst hb
      rw [if_neg h4]
      refine (bf rfl).trans ?_
      refine (br (aI _)).trans ?_
      by_cases h6 : o.k = 6
      · rw [if_pos h6]
        refine (bt (dtrue h6)).trans ?_
        refine (rdM hN.hB (k := 9) rfl).trans ?_
        refine (br hlen).trans ?_
        by_cases hl : 1 < lets.length
        · refine (bt (dtrue (by omega))).trans ?_
          refine (cr (lets_spec hN hl0 hl1)).trans ?_
          refine (br (show nilCk (.mp O g (lets.length - 1)) = some _ from rfl)).trans ?_
          refine (br (lets_get hN hl0)).trans ?_
          refine (br (aI _)).trans ?_
          rw [dtrue hl, Bool.true_and]
        · refine (bf (dfalse (by omega))).trans ?_
          rw [dfalse hl, Bool.false_and]
      · rw [if_neg h6]
        refine (bf (dfalse h6)).trans ?_
        refine (br (aI _)).trans ?_
        by_cases h12 : o.k = 12
        · rw [if_pos h12]
          refine (bt (dtrue h12)).trans ?_
          refine (rdO (k := 1) rfl).trans ?_
          refine (cr (lets_spec hN hl0 hl1)).trans ?_
          refine (it rfl).trans ?_
          refine (br (show nilCk (.mp O g (lets.length - 1)) = some _ from rfl)).trans ?_
          refine (br (lets_get hN hl0)).trans ?_
          refine (br (aI _)).trans ?_
          exact br (aI _)
        · rw [if_neg h12]
          refine (bf (dfalse h12)).trans ?_
          rw [verify_block_shape1.p111_eq]
  by_cases h4 : o.k = 4
  · refine (bt (dtrue h4)).trans ?_
    exact body _ (by simp [h4])
  · refine (bf (dfalse h4)).trans ?_
    refine (br (aI _)).trans ?_
    exact body _ (by simp [h4])
end

/-! ## Programs: behind an operation. -/
theorem sto_atG {st : Sto} {id g k : Nat} {cs : List AV} {x : AV} (h : st[id]? = some (.cells g cs 0)) (hk : k < cs.length) (hx : x.isCell = true) (hc : x.cells = [x]) : sto 1 st (.mp id g k) x = some (st.set id (.cells g (cs.set k x) 0)) := by
  have h1 : k + [x].length ≤ cs.length := hk
  have h2 : ([x]).all AV.isCell = true := by simp [hx]
  have h3 : splice cs k [x] = cs.set k x := by
    unfold splice
    rw [List.set_eq_take_append_cons_drop, if_pos hk]
    rfl
  unfold sto
  rw [hc, if_pos (show [x].length = 1 from rfl)]
  simp only [stCells, h, h1, h2, h3, Nat.zero_le, true_and, and_self, if_true]

/-- A field of an object is written. -/
theorem wrM {B k : Nat} {S : Sto} {cs : List AV} {x : AV} (h : S[B]? = some (.cells 0 cs 0)) (hk : k < cs.length) (hx : x.isCell = true) (hc : x.cells = [x]) {F : Sto → Option Res} : ((nilCk (.mp B 0 0)).bind fun v1 => (fa k 1 v1).bind fun v2 => (sto 1 S v2 x).bind fun s => F s) = F (S.set B (.cells 0 (cs.set k x) 0)) := by
  have hn : nilCk (.mp B 0 0) = some (.mp B 0 0) := rfl
  have hf : fa k 1 (.mp B 0 0) = some (.mp B 0 (0 + k)) := rfl
  rw [hn, Option.bind_some, hf, Option.bind_some, sto_at h (by rw [Nat.zero_add]; exact hk) hx hc, Option.bind_some, Nat.zero_add]

theorem keeps_weak {n m : Nat} {S S' : Sto} (h : Keeps m S S') (k : n ≤ m) : Keeps n S S' := ⟨h.len, fun i hi => h.at_ i (by omega)⟩

def arNew (k : Bk) (lets : List Int) (o : OpA) (m : Int) : Ar := ⟨true, decide (o.k = 9), wr (k.depth + m), nestA k lets, if o.k = 9 then wr (k.inn.loops + 1) else k.inn.loops⟩
def arGo (k : Bk) (lets : List Int) (o : OpA) : List Ar → List (Int × Int) → List Ar
  | ar, [] => ar
  | ar, x :: r => arGo k lets o (ar.set x.1.toNat (arNew k lets o x.2)) r
theorem arGo_len (k : Bk) (lets : List Int) (o : OpA) : ∀ (l : List (Int × Int)) (ar : List Ar), (arGo k lets o ar l).length = ar.length := by
  intro l
  induction l with
  | nil => intro ar; rfl
  | cons x r ih => intro ar; simp only [arGo, ih, List.length_set]

theorem ar_set {l : List Ar} {w : Nat} (hw : w < l.length) (a : Ar) : splice (arcells l) (w * 5) (arc a) = arcells (l.set w a) := by
  have ht : (arcells (l.take w)).length = w * 5 := by rw [ar_len, List.length_take]; congr 1; omega
  have h5 : (arc (l.getD w default)).length = 5 := rfl
  have ha5 : (arc a).length = 5 := rfl
  have hsp : arcells l = arcells (l.take w) ++ (arc (l.getD w default) ++ arcells (l.drop (w + 1))) := by
    rw [show arc (l.getD w default) ++ arcells (l.drop (w + 1)) = arcells (l.getD w default :: l.drop (w + 1)) from rfl, ← ar_app, ← ar_split hw]
  have hset : l.set w a = l.take w ++ a :: l.drop (w + 1) := by rw [List.set_eq_take_append_cons_drop, if_pos hw]
  rw [hset, ar_app]
  unfold splice
  rw [hsp, ← ht, List.take_left, ha5, List.drop_append, List.drop_append]
  have e1 : (arcells (l.take w)).length + 5 - (arcells (l.take w)).length = 5 := by omega
  rw [e1, List.drop_of_length_le (by omega), List.drop_of_length_le (by rw [h5]; omega), h5]
  simp [arcells]
theorem ar_sto {S : Sto} {A : Nat} {l : List Ar} (h : S[A]? = some (.cells 0 (arcells l) 0)) {w : Nat} (hw : w < l.length) (a : Ar) : sto 5 S (.mp A 0 (w * 5)) (.agg (arc a)) = some (S.set A (.cells 0 (arcells (l.set w a)) 0)) := by
  have h1 : w * 5 + (arc a).length ≤ (arcells l).length := by rw [ar_len]; show w * 5 + 5 ≤ _; omega
  have h2 : (arc a).all AV.isCell = true := rfl
  unfold sto
  rw [show (AV.agg (arc a)).cells = arc a from rfl, if_pos (show (arc a).length = 5 from rfl)]
  simp only [stCells, h, h1, h2, Nat.zero_le, true_and, and_self, if_true, ar_set hw a]

theorem last_set {S : Sto} {o o' : Ob} : (S ++ [o]).set S.length o' = S ++ [o'] := by
  rw [List.set_append_right _ _ (Nat.le_refl _), Nat.sub_self]
  rfl
theorem last_get {S : Sto} {o : Ob} : (S ++ [o])[S.length]? = some o := by simp

section
variable {p : PrA} {P V A O B : Nat} {tx cd sx bl : AV} {S : Sto} {k : Bk} {g : Nat} {lets : List Int} {ar : List Ar}

theorem Now.setA (h : Now P V A O B k g lets ar S) {ar' : List Ar} (hl : ar'.length = ar.length) : Now P V A O B k g lets ar' (S.set A (.cells 0 (arcells ar') 0)) := by
  obtain ⟨junk, hO⟩ := h.hO
  have h1 := h.n1; have h2 := h.n2; have h3 := h.n3; have h4 := h.n4
  have hA := (List.getElem?_eq_some_iff.1 h.hA).1
  exact ⟨by rw [List.getElem?_set_ne (by omega), hl]; exact h.hV, List.getElem?_set_self hA, by rw [List.getElem?_set_ne (by omega)]; exact h.hB, ⟨junk, by rw [List.getElem?_set_ne (by omega)]; exact hO⟩, h1, h2, h3, h4⟩
theorem Now.setB (h : Now P V A O B k g lets ar S) {k' : Bk} {cs : List AV} (hc : cs = bcells V O g lets k') : Now P V A O B k' g lets ar (S.set B (.cells 0 cs 0)) := by
  obtain ⟨junk, hO⟩ := h.hO
  have h1 := h.n1; have h2 := h.n2; have h3 := h.n3; have h4 := h.n4
  have hB := (List.getElem?_eq_some_iff.1 h.hB).1
  exact ⟨by rw [List.getElem?_set_ne (by omega)]; exact h.hV, by rw [List.getElem?_set_ne (by omega)]; exact h.hA, by rw [List.getElem?_set_self hB, hc], ⟨junk, by rw [List.getElem?_set_ne (by omega)]; exact hO⟩, h1, h2, h3, h4⟩
/-- The open elements, and the block's slice of them. -/
theorem Now.setO (h : Now P V A O B k g lets ar S) {g' : Nat} {lets' : List Int} {S' : Sto} {cs junk : List AV} (hS' : S'[O]? = some (.cells g' (hcellsI lets' ++ junk) 0)) (hk : ∀ j, j ≠ O → S'[j]? = S[j]?) (hl : S'.length = S.length) (hc : cs = bcells V O g' lets' k) : Now P V A O B k g' lets' ar (S'.set B (.cells 0 cs 0)) := by
  have h1 := h.n1; have h2 := h.n2; have h3 := h.n3; have h4 := h.n4
  have hB := (List.getElem?_eq_some_iff.1 h.hB).1
  exact ⟨by rw [List.getElem?_set_ne (by omega), hk V (by omega)]; exact h.hV, by rw [List.getElem?_set_ne (by omega), hk A (by omega)]; exact h.hA, by rw [List.getElem?_set_self (by omega), hc], ⟨junk, by rw [List.getElem?_set_ne (by omega)]; exact hS'⟩, h1, h2, h3, h4⟩
theorem Now.setOv (h : Now P V A O B k g lets ar S) {lets' : List Int} {junk : List AV} (hl : lets'.length = lets.length) : Now P V A O B k g lets' ar (S.set O (.cells g (hcellsI lets' ++ junk) 0)) := by
  obtain ⟨junk0, hO⟩ := h.hO
  have h1 := h.n1; have h2 := h.n2; have h3 := h.n3; have h4 := h.n4
  have hOl := (List.getElem?_eq_some_iff.1 hO).1
  exact ⟨by rw [List.getElem?_set_ne (by omega)]; exact h.hV, by rw [List.getElem?_set_ne (by omega)]; exact h.hA, by rw [List.getElem?_set_ne (by omega)]; have := h.hB; unfold bcells at this ⊢; rw [hl]; exact this, ⟨junk, List.getElem?_set_self hOl⟩, h1, h2, h3, h4⟩

theorem done_loop {o : OpA} {lv : AV} {cv : AV} (hc : InsV (belongsA o) cv) (w : Int) (hll : lets.length ≤ 1050000) : ∀ (m i : Nat) (S : Sto) (ar : List Ar), i + m = (belongsA o).length → V < S.length → Now P V A O B k g lets ar S → (∀ x ∈ (belongsA o).drop i, 0 ≤ x.1 ∧ x.1 < ((ar.length : Nat) : Int)) →
    ∃ S', verify_block_done.p0100 (.mp B 0 0) w (.ip (oc o lv)) cv (((belongsA o).length : Nat) : Int) ((i : Nat) : Int) S = verify_block_done.p0100 (.mp B 0 0) w (.ip (oc o lv)) cv (((belongsA o).length : Nat) : Int) (((belongsA o).length : Nat) : Int) S' ∧ Now P V A O B k g lets (arGo k lets o ar ((belongsA o).drop i)) S' ∧ Keeps (V + 1) S S' := by
  have hbl := belongsA_len o
  intro m
  induction m with
  | zero =>
    intro i S ar him hV hN hx
    have hi : i = (belongsA o).length := by omega
    subst hi
    exact ⟨S, rfl, by rw [List.drop_length]; exact hN, Keeps.refl _ _⟩
  | succ m ih =>
    intro i S ar him hV hN hxs
    have hi : i < (belongsA o).length := by omega
    obtain ⟨x, hx, hd⟩ := drop_pair hi
    have hia := ins_at hc hx
    have w1 : IntKind.wrap .i64 (((i : Nat) : Int) + 1) = ((i + 1 : Nat) : Int) := w64 _ (by omega) (by omega)
    obtain ⟨q1, q2⟩ := hxs x (by rw [hd]; simp)
    obtain ⟨y, hy⟩ : ∃ y : Nat, x.1 = (y : Int) := ⟨x.1.toNat, by omega⟩
    have hyl : y < ar.length := by omega
    have hyt : x.1.toNat = y := by omega
    obtain ⟨S1, hS1⟩ : ∃ S1, S1 = S ++ [Ob.cells 0 [.int .i64 x.1, .int .i64 x.2] 0] := ⟨_, rfl⟩
    have hN1 : Now P V A O B k g lets ar S1 := by rw [hS1]; exact hN.mono ap_get
    have hl1 : S1.length = S.length + 1 := by rw [hS1]; simp
    have hp1 : ld false 1 S1 (.mp S.length 0 1) = some (.int .i64 x.2) := by rw [hS1]; exact pair_get1 _ _ _
    have z5 : [AV.bool false, .bool false, .int .i64 0, .int .i64 0, .int .i64 0] = arc ⟨false, false, 0, 0, 0⟩ := rfl
    obtain ⟨Z, hZ⟩ : ∃ Z, Z = S1 ++ [Ob.cells 0 (arc ⟨false, false, 0, 0, 0⟩) 0] := ⟨_, rfl⟩
    have hNZ : Now P V A O B k g lets ar Z := by rw [hZ]; exact hN1.mono ap_get
    have hpZ : ld false 1 Z (.mp S.length 0 1) = some (.int .i64 x.2) := by rw [hZ, hS1]; exact m_get (n := 1) (g := 0) (fz := 0) (cs := [.int .i64 x.1, .int .i64 x.2]) (app_get (by simp)) rfl
    have bget : ∀ {T : Sto} {j : Nat} {c : AV}, Now P V A O B k g lets ar T → (bcells V O g lets k)[j]? = some c → ld false 1 T (.mp B 0 (0 + j)) = some c := fun hT hj => m_get hT.hB (by rw [Nat.zero_add]; exact hj)
    have bget2 : ∀ {T : Sto} {j : Nat} {c : AV}, Now P V A O B k g lets ar T → (bcells V O g lets k)[3 + j]? = some c → ld false 1 T (.mp B 0 (0 + 3 + j)) = some c := fun hT hj => m_get hT.hB (by rw [Nat.zero_add]; exact hj)
    have hlen : lenL (.ms O g 0 lets.length 1) = some lets.length := rfl
    let a1 : Ar := ⟨true, false, wr (k.depth + x.2), nestA k lets, k.inn.loops⟩
    obtain ⟨T, hT⟩ : ∃ T, T = S1 ++ [Ob.cells 0 (arc (arNew k lets o x.2)) 0] := ⟨_, rfl⟩
    have hNT : Now P V A O B k g lets ar T := by rw [hT]; exact hN1.mono ap_get
    have hagg : (aggA (fillA (fun i => ([(0, 1), (1, 1), (2, 1), (3, 1), (4, 1)] : List (Nat × Nat))[i]?) (arc ⟨false, false, 0, 0, 0⟩) [(0, (.bool true)), (2, (.int .i64 (wr (k.depth + x.2)))), (3, (.int .i64 (nestA k lets))), (4, .int .i64 k.inn.loops)])) = some (.agg (arc ⟨true, false, wr (k.depth + x.2), nestA k lets, k.inn.loops⟩)) := rfl
    have hst : sto 5 Z (.mp S1.length 0 0) (.agg (arc ⟨true, false, wr (k.depth + x.2), nestA k lets, k.inn.loops⟩)) = some (S1 ++ [Ob.cells 0 (arc ⟨true, false, wr (k.depth + x.2), nestA k lets, k.inn.loops⟩) 0]) := by rw [hZ]; exact m_new (cs := arc ⟨false, false, 0, 0, 0⟩) (cs' := arc ⟨true, false, wr (k.depth + x.2), nestA k lets, k.inn.loops⟩) rfl rfl rfl
    -- the around is put in its place
    have hput : verify_block_done.p01001100111 (.mp B 0 0) w (.ip (oc o lv)) S.length S1.length cv (((belongsA o).length : Nat) : Int) ((i : Nat) : Int) T = verify_block_done.p0100 (.mp B 0 0) w (.ip (oc o lv)) cv (((belongsA o).length : Nat) : Int) ((i + 1 : Nat) : Int) (T.set A (.cells 0 (arcells (ar.set y (arNew k lets o x.2))) 0)) := by
      rw [verify_block_done.p01001100111_eq]
      refine (rdM hNT.hB (k := 0) rfl).trans ?_
      refine (rdM hNT.hV (k := 1) rfl).trans ?_
      refine (br (pair_at0 _)).trans ?_
      refine (br (show ld false 1 T (.mp S.length 0 0) = some (.int .i64 x.1) by rw [hT, hS1]; exact m_get (n := 0) (g := 0) (fz := 0) (cs := [.int .i64 x.1, .int .i64 x.2]) (app_get (by simp)) rfl)).trans ?_
      refine (br (show ld true 5 T (.mp S1.length 0 0) = some (.agg (arc (arNew k lets o x.2))) by rw [hT]; exact m_all (g := 0) (fz := 0) last_get rfl)).trans ?_
      refine (br (show ia 5 (.ms A 0 0 ar.length 5) (.int .i64 x.1) = some (.mp A 0 (y * 5)) by rw [hy]; exact ar_ptr hyl)).trans ?_
      refine (br (ar_sto hNT.hA hyl _)).trans ?_
      rw [w1]
    obtain ⟨S', e1, e2, e3⟩ := ih (i + 1) (T.set A (.cells 0 (arcells (ar.set y (arNew k lets o x.2))) 0)) (ar.set y (arNew k lets o x.2)) (by omega) (by rw [List.length_set, hT]; simp; omega) (hNT.setA (by simp)) (fun z hz => by
      rw [List.length_set]
      exact hxs z (by rw [hd]; exact List.mem_cons_of_mem _ hz))
    have hAV := hN.n2
    refine ⟨S', ?_, by rw [hd]; simp only [arGo]; rw [hyt]; exact e2, (Keeps.trans ?_ (Keeps.set (by omega))).trans e3⟩
    · rw [← e1, ← hput, verify_block_done.p0100_eq, z5]
      refine (bt (dtrue (by omega))).trans ?_
      refine (br hia).trans ?_
      refine (br (l2 _ _ _)).trans ?_
      refine (br (pair_new _ _ _)).trans ?_
      rw [← hS1, ← hZ]
      refine (rdM hN1.hB (k := 8) rfl).trans ?_
      refine (br (pair_at1 _)).trans ?_
      refine (br hp1).trans ?_
      refine (br (aI _)).trans ?_
      refine (br (aI _)).trans ?_
      refine (rdI hN1.hB (j := 3) (k := 3) rfl).trans ?_
      refine (rdM hN1.hB (k := 9) rfl).trans ?_
      refine (br hlen).trans ?_
      refine (br (aI _)).trans ?_
      refine (rdI hN1.hB (j := 3) (k := 4) rfl).trans ?_
      refine (br hagg).trans ?_
      refine (br (bget2 hNZ rfl)).trans ?_
      refine (it rfl).trans ?_
      refine (br hlen).trans ?_
      refine (it rfl).trans ?_
      refine (br (bget hNZ rfl)).trans ?_
      refine (it rfl).trans ?_
      refine (br (bget2 hNZ rfl)).trans ?_
      refine (it rfl).trans ?_
      refine (br hpZ).trans ?_
      refine (it rfl).trans ?_
      refine (br (bget hNZ rfl)).trans ?_
      refine (it rfl).trans ?_
      refine (br hst).trans ?_
      refine (rdO (k := 0) rfl).trans ?_
      refine (br (aI _)).trans ?_
      by_cases h9 : o.k = 9
      · refine (bt (dtrue h9)).trans ?_
        have s1 := sto_at (st := S1 ++ [Ob.cells 0 (arc ⟨true, false, wr (k.depth + x.2), nestA k lets, k.inn.loops⟩) 0]) (id := S1.length) (k := 1) (x := .bool true) last_get (by show 1 < 5; omega) rfl rfl
        rw [last_set] at s1
        refine (br s1).trans ?_
        refine (br (m_get (n := 4) (g := 0) (fz := 0) last_get rfl)).trans ?_
        refine (br (aI _)).trans ?_
        have s2 := sto_at (st := S1 ++ [Ob.cells 0 ((arc ⟨true, false, wr (k.depth + x.2), nestA k lets, k.inn.loops⟩).set 1 (.bool true)) 0]) (id := S1.length) (k := 4) (x := .int .i64 (IntKind.wrap .i64 (k.inn.loops + 1))) last_get (by show 4 < 5; omega) rfl rfl
        rw [last_set] at s2
        refine (br s2).trans ?_
        have : ((arc ⟨true, false, wr (k.depth + x.2), nestA k lets, k.inn.loops⟩).set 1 (.bool true)).set 4 (.int .i64 (IntKind.wrap .i64 (k.inn.loops + 1))) = arc (arNew k lets o x.2) := by
          unfold arNew
          rw [dtrue h9, if_pos h9]
          rfl
        rw [this, ← hT]
      · refine (bf (dfalse h9)).trans ?_
        have : arc ⟨true, false, wr (k.depth + x.2), nestA k lets, k.inn.loops⟩ = arc (arNew k lets o x.2) := by
          unfold arNew
          rw [dfalse h9, if_neg h9]
        rw [this, ← hT]
    · rw [hT, hS1, List.append_assoc]
      exact Keeps.app (by omega)

/-! ### The kinds -/
def setLast (l : List Int) (x : Int) : List Int := l.set (l.length - 1) x
def doneK (p : PrA) (i : Nat) (o : OpA) (k : Bk) (lets : List Int) : Bk × List Int :=
  if o.k = 3 then ({ k with opened := ((i : Nat) : Int), name := ⟨#[]⟩ }, lets ++ [0])
  else if o.k = 4 ∨ o.k = 5 then ({ k with opened := ((i : Nat) : Int), name := p.texts.getD o.a.toNat ⟨#[]⟩ }, lets)
  else if o.k = 6 then ({ k with first := if lets.length = 2 ∧ k.first < 0 then ((i : Nat) : Int) else k.first }, lets.dropLast)
  else if o.k = 11 then ({ k with depth := wr (k.depth + 1) }, setLast lets (wr (lastI lets + 1)))
  else if o.k = 12 then ({ k with depth := wr (k.depth - o.a) }, setLast lets (wr (lastI lets - o.a)))
  else (k, lets)

theorem hc_last {l : List Int} (hl : 0 < l.length) (x : Int) (junk : List AV) : (hcellsI l ++ junk).set (l.length - 1) (.int .i64 x) = hcellsI (setLast l x) ++ junk := by
  rw [List.set_append_left _ _ (by simp [hcellsI]; omega)]
  simp only [hcellsI, setLast, List.map_set]
theorem hc_drop {l : List Int} (hl : 0 < l.length) : hcellsI l = hcellsI l.dropLast ++ [.int .i64 (lastI l)] := by
  have hne : l ≠ [] := by intro h; rw [h] at hl; simp at hl
  have e : lastI l = l.getLast hne := by
    unfold lastI
    rw [List.getD_eq_getElem?_getD, ← List.getLast?_eq_getElem?, List.getLast?_eq_some_getLast hne]
    rfl
  have := List.dropLast_concat_getLast hne
  rw [e]
  conv => lhs; rw [← this]
  simp [hcellsI]

theorem kinds_spec (H : Prg p P tx cd sx bl S) (hN : Now P V A O B k g lets ar S) (hl0 : 0 < lets.length) (hl1 : lets.length ≤ 1050000) {o : OpA} {lv : AV} (i : Nat) (cv : AV) (n : Int) (hk4 : o.k = 4 ∨ o.k = 5 → 0 ≤ o.a ∧ o.a < ((p.texts.length : Nat) : Int)) (hk6 : o.k = 6 → 1 < lets.length) :
    ∃ S' g', verify_block_done.p0100 (.mp B 0 0) ((i : Nat) : Int) (.ip (oc o lv)) cv n n S = some ⟨.ret (.tup []), none, S'⟩ ∧ Now P V A O B (doneK p i o k lets).1 g' (doneK p i o k lets).2 ar S' ∧ Keeps (V + 1) S S' := by
  obtain ⟨junk, hO⟩ := hN.hO
  have hOl := (List.getElem?_eq_some_iff.1 hO).1
  have h2 := hN.n2; have h3' := hN.n3; have h4' := hN.n4
  have hlen : lenL (.ms O g 0 lets.length 1) = some lets.length := rfl
  have hbl : (bcells V O g lets k).length = 13 := rfl
  have hBl := (List.getElem?_eq_some_iff.1 hN.hB).1
  rw [verify_block_done.p0100_eq]
  unfold doneK
  by_cases h3 : o.k = 3
  · rw [if_pos h3]
    have hli : (litS false 1 1 (fillA (fun i => some (i * 1, 1)) [.int .i64 0] [(0, (.int .i64 0))]) S) = some (.is [.int .i64 0] 1 .full, S) := rfl
    have happ : appL false false 1 8 (.ms O g 0 lets.length 1) (.is [.int .i64 0] 1 .full) S = some (.ms O (g + 1) 0 (lets.length + 1) 1, S.set O (.cells (g + 1) (hcellsI (lets ++ [0])) 0)) := by
      have htail : tailOf false 1 S (.is [.int .i64 0] 1 .full) = some ([.int .i64 0], 1) := rfl
      have hroom : room 8 (lets.length + 1) = true := by simp [room]; omega
      have hle : 0 + lets.length * 1 ≤ (hcellsI lets ++ junk).length := by rw [List.length_append]; simp [hcellsI]
      have ht : (hcellsI lets ++ junk).take lets.length = hcellsI lets := by
        rw [List.take_append_of_le_length (by simp [hcellsI])]
        have : (hcellsI lets).length = lets.length := by simp [hcellsI]
        rw [← this, List.take_length]
      simp only [appL, htail, Option.bind_some, true_and, hroom, if_true, hO, hle, and_self, List.drop_zero, Nat.mul_one, ht]
      simp [hcellsI]
    obtain ⟨S1, hS1⟩ : ∃ S1, S1 = S.set O (.cells (g + 1) (hcellsI (lets ++ [0])) 0) := ⟨_, rfl⟩
    have hll : (lets ++ [(0 : Int)]).length = lets.length + 1 := by simp
    have hN1 : Now P V A O B k (g + 1) (lets ++ [0]) ar (S1.set B (.cells 0 ((bcells V O g lets k).set 9 (.ms O (g + 1) 0 (lets.length + 1) 1)) 0)) :=
      hN.setO (junk := []) (by rw [hS1, List.append_nil]; exact List.getElem?_set_self hOl) (fun j hj => by rw [hS1, List.getElem?_set_ne (Ne.symm hj)]) (by rw [hS1]; simp) (by unfold bcells; rw [hll]; rfl)
    have hB1 : S1[B]? = some (.cells 0 (bcells V O g lets k) 0) := by rw [hS1, List.getElem?_set_ne (by omega)]; exact hN.hB
    obtain ⟨S2, hS2⟩ : ∃ S2, S2 = S1.set B (.cells 0 ((bcells V O g lets k).set 9 (.ms O (g + 1) 0 (lets.length + 1) 1)) 0) := ⟨_, rfl⟩
    rw [← hS2] at hN1
    have hN2 := hN1.setB (k' := { k with opened := ((i : Nat) : Int) }) (cs := (bcells V O (g + 1) (lets ++ [0]) k).set 10 (.int .i64 ((i : Nat) : Int))) rfl
    have hN3 := hN2.setB (k' := { k with opened := ((i : Nat) : Int), name := ⟨#[]⟩ }) (cs := (bcells V O (g + 1) (lets ++ [0]) { k with opened := ((i : Nat) : Int) }).set 11 (.str ⟨#[]⟩)) rfl
    refine ⟨_, g + 1, ?_, hN3, ?_⟩
    · refine (bf (dfalse (by omega))).trans ?_
      refine (rdO (k := 0) rfl).trans ?_
      refine (br (aI _)).trans ?_
      refine (bt (dtrue h3)).trans ?_
      refine (rdM hN.hB (k := 9) rfl).trans ?_
      refine (br hli).trans ?_
      refine (br happ).trans ?_
      rw [← hS1]
      refine (wrM hB1 (by rw [hbl]; omega) rfl rfl).trans ?_
      rw [← hS2]
      refine (wrM hN1.hB (by show 10 < 13; omega) rfl rfl).trans ?_
      refine (wrM hN2.hB (by show 11 < 13; omega) rfl rfl).trans ?_
      rfl
    · rw [hS2, hS1]
      exact (Keeps.set (by omega)).trans ((Keeps.set (by omega)).trans ((Keeps.set (by omega)).trans (Keeps.set (by omega))))
  rw [if_neg h3]
  have core : ∀ b, b = decide (o.k = 4 ∨ o.k = 5) → ∃ S' g', verify_block_done.p110111 (.mp B 0 0) ((i : Nat) : Int) (.ip (oc o lv)) (.int .i64 o.k) b S = some ⟨.ret (.tup []), none, S'⟩ ∧ Now P V A O B (if o.k = 4 ∨ o.k = 5 then ({ k with opened := ((i : Nat) : Int), name := p.texts.getD o.a.toNat ⟨#[]⟩ }, lets) else if o.k = 6 then ({ k with first := if lets.length = 2 ∧ k.first < 0 then ((i : Nat) : Int) else k.first }, lets.dropLast) else if o.k = 11 then ({ k with depth := wr (k.depth + 1) }, setLast lets (wr (lastI lets + 1))) else if o.k = 12 then ({ k with depth := wr (k.depth - o.a) }, setLast lets (wr (lastI lets - o.a))) else (k, lets) : Bk × List Int).1 g' (if o.k = 4 ∨ o.k = 5 then ({ k with opened := ((i : Nat) : Int), name := p.texts.getD o.a.toNat ⟨#[]⟩ }, lets) else if o.k = 6 then ({ k with first := if lets.length = 2 ∧ k.first < 0 then ((i : Nat) : Int) else k.first }, lets.dropLast) else if o.k = 11 then ({ k with depth := wr (k.depth + 1) }, setLast lets (wr (lastI lets + 1))) else if o.k = 12 then ({ k with depth := wr (k.depth - o.a) }, setLast lets (wr (lastI lets - o.a))) else (k, lets) : Bk × List Int).2 ar S' ∧ Keeps (V + 1) S S' := by
    intro b hb
    rw [verify_block_done.p110111_eq]
    by_cases h4 : o.k = 4 ∨ o.k = 5
    · rw [dtrue h4] at hb
      subst hb
      rw [if_pos h4]
      obtain ⟨q1, q2⟩ := hk4 h4
      obtain ⟨w, hw⟩ : ∃ w : Nat, o.a = (w : Int) := ⟨o.a.toNat, by omega⟩
      obtain ⟨cs, hia, rfl⟩ := H.hT.2.2.2 w (by omega)
      have hN1 := hN.setB (k' := { k with opened := ((i : Nat) : Int) }) (cs := (bcells V O g lets k).set 10 (.int .i64 ((i : Nat) : Int))) rfl
      have hN2 := hN1.setB (k' := { k with opened := ((i : Nat) : Int), name := p.texts.getD w ⟨#[]⟩ }) (cs := (bcells V O g lets { k with opened := ((i : Nat) : Int) }).set 11 (.str (p.texts.getD w ⟨#[]⟩))) rfl
      rw [hw, Int.toNat_natCast]
      refine ⟨_, g, ?_, hN2, (Keeps.set (by omega)).trans (Keeps.set (by omega))⟩
      refine (bt rfl).trans ?_
      refine (rdM hN.hB (k := 0) rfl).trans ?_
      refine (rdM hN.hV (k := 0) rfl).trans ?_
      refine (rdM H.hP (k := 0) rfl).trans ?_
      refine (rdO (k := 1) rfl).trans ?_
      rw [hw]
      refine (br hia).trans ?_
      refine (br (l1 _ _)).trans ?_
      refine (wrM hN.hB (by show 10 < 13; omega) rfl rfl).trans ?_
      exact wrM hN1.hB (by show 11 < 13; omega) rfl rfl
    rw [dfalse h4] at hb
    subst hb
    rw [if_neg h4]
    by_cases h6 : o.k = 6
    · rw [if_pos h6]
      have hl2 := hk6 h6
      have hw1 : IntKind.wrap .i64 (((lets.length : Nat) : Int) - 1) = ((lets.length - 1 : Nat) : Int) := w64 _ (by omega) (by omega)
      have hcut : cutL 1 (.ms O g 0 lets.length 1) none (some (.int .i64 ((lets.length - 1 : Nat) : Int))) = some (.ms O g 0 (lets.length - 1) 1) := by
        have hb : bnd lets.length lets.length (some (.int .i64 ((lets.length - 1 : Nat) : Int))) = some (lets.length - 1) := by
          unfold bnd
          simp only
          rw [if_pos (by omega)]
          simp
        simp only [cutL, hb, Option.bind_some]
        simp only [bnd, Option.bind_some, if_true, Nat.zero_mul, Nat.add_zero, Nat.sub_zero]
      have hdl : lets.dropLast.length = lets.length - 1 := by simp
      have hN1 : Now P V A O B k g lets.dropLast ar (S.set B (.cells 0 ((bcells V O g lets k).set 9 (.ms O g 0 (lets.length - 1) 1)) 0)) :=
        hN.setO (S' := S) (junk := .int .i64 (lastI lets) :: junk) (by rw [hO, hc_drop hl0]; simp) (fun _ _ => rfl) rfl (by unfold bcells; rw [hdl]; rfl)
      have hlen1 : lenL (.ms O g 0 lets.dropLast.length 1) = some (lets.length - 1) := by rw [hdl]; rfl
      obtain ⟨S1, hS1⟩ : ∃ S1, S1 = S.set B (.cells 0 ((bcells V O g lets k).set 9 (.ms O g 0 (lets.length - 1) 1)) 0) := ⟨_, rfl⟩
      rw [← hS1] at hN1
      have hk1 : Keeps (V + 1) S S1 := by rw [hS1]; exact Keeps.set (by omega)
      have pre : verify_block_done.p110111 (.mp B 0 0) ((i : Nat) : Int) (.ip (oc o lv)) (.int .i64 o.k) false S = verify_block_done.p11011111011 (.mp B 0 0) ((i : Nat) : Int) (decide (lets.length = 2 ∧ k.first < 0)) S1 := by
        rw [verify_block_done.p110111_eq]
        refine (bf rfl).trans ?_
        refine (br (aI _)).trans ?_
        refine (bt (dtrue h6)).trans ?_
        refine (rdM hN.hB (k := 9) rfl).trans ?_
        refine (rdM hN.hB (k := 9) rfl).trans ?_
        refine (br hlen).trans ?_
        rw [hw1]
        refine (br hcut).trans ?_
        refine (wrM hN.hB (by show 9 < 13; omega) rfl rfl).trans ?_
        rw [← hS1]
        refine (rdM hN1.hB (k := 9) rfl).trans ?_
        refine (br hlen1).trans ?_
        by_cases e2 : lets.length = 2
        · refine (bt (dtrue (by omega))).trans ?_
          refine (rdM hN1.hB (k := 12) rfl).trans ?_
          refine (br (aI _)).trans ?_
          rw [show decide (k.first < 0) = decide (lets.length = 2 ∧ k.first < 0) by simp [e2]]
        · refine (bf (dfalse (by omega))).trans ?_
          rw [dfalse (show ¬ (lets.length = 2 ∧ k.first < 0) from fun h => e2 h.1)]
      rw [verify_block_done.p110111_eq] at pre
      rw [pre, verify_block_done.p11011111011_eq]
      by_cases e2 : lets.length = 2 ∧ k.first < 0
      · have hN2 := hN1.setB (k' := { k with first := ((i : Nat) : Int) }) (cs := (bcells V O g lets.dropLast k).set 12 (.int .i64 ((i : Nat) : Int))) rfl
        rw [if_pos e2]
        refine ⟨_, g, ?_, hN2, hk1.trans (Keeps.set (by omega))⟩
        refine (bt (dtrue e2)).trans ?_
        exact wrM hN1.hB (by show 12 < 13; omega) rfl rfl
      · rw [if_neg e2]
        refine ⟨S1, g, bf (dfalse e2), hN1, hk1⟩
    rw [if_neg h6]
    by_cases h11 : o.k = 11
    · rw [if_pos h11]
      have hN1 := hN.setB (k' := { k with depth := wr (k.depth + 1) }) (cs := (bcells V O g lets k).set 8 (.int .i64 (wr (k.depth + 1)))) rfl
      obtain ⟨S1, hS1⟩ : ∃ S1, S1 = S.set B (.cells 0 ((bcells V O g lets k).set 8 (.int .i64 (wr (k.depth + 1)))) 0) := ⟨_, rfl⟩
      rw [← hS1] at hN1
      have hO1 : S1[O]? = some (.cells g (hcellsI lets ++ junk) 0) := by rw [hS1, List.getElem?_set_ne (by omega)]; exact hO
      have hN2 := hN1.setOv (lets' := setLast lets (wr (lastI lets + 1))) (junk := junk) (by simp [setLast])
      have hst : sto 1 S1 (.mp O g (lets.length - 1)) (.int .i64 (IntKind.wrap .i64 (lastI lets + 1))) = some (S1.set O (.cells g (hcellsI (setLast lets (wr (lastI lets + 1))) ++ junk) 0)) := by
        rw [sto_atG hO1 (by rw [List.length_append]; simp [hcellsI]; omega) rfl rfl, hc_last hl0]
      refine ⟨_, g, ?_, hN2, ?_⟩
      · refine (bf rfl).trans ?_
        refine (br (aI _)).trans ?_
        refine (bf (dfalse h6)).trans ?_
        refine (br (aI _)).trans ?_
        refine (bt (dtrue h11)).trans ?_
        refine (rdM hN.hB (k := 8) rfl).trans ?_
        refine (br (aI _)).trans ?_
        refine (wrM hN.hB (by show 8 < 13; omega) rfl rfl).trans ?_
        rw [← hS1]
        refine (cr (lets_spec hN1 hl0 hl1)).trans ?_
        refine (br (show nilCk (.mp O g (lets.length - 1)) = some _ from rfl)).trans ?_
        refine (br (lets_get hN1 hl0)).trans ?_
        refine (br (aI _)).trans ?_
        refine (br (show nilCk (.mp O g (lets.length - 1)) = some _ from rfl)).trans ?_
        exact br hst
      · rw [hS1]
        exact (Keeps.set (by omega)).trans (Keeps.set (by omega))
    rw [if_neg h11]
    by_cases h12 : o.k = 12
    · rw [if_pos h12]
      have hN1 := hN.setB (k' := { k with depth := wr (k.depth - o.a) }) (cs := (bcells V O g lets k).set 8 (.int .i64 (wr (k.depth - o.a)))) rfl
      obtain ⟨S1, hS1⟩ : ∃ S1, S1 = S.set B (.cells 0 ((bcells V O g lets k).set 8 (.int .i64 (wr (k.depth - o.a)))) 0) := ⟨_, rfl⟩
      rw [← hS1] at hN1
      have hO1 : S1[O]? = some (.cells g (hcellsI lets ++ junk) 0) := by rw [hS1, List.getElem?_set_ne (by omega)]; exact hO
      have hN2 := hN1.setOv (lets' := setLast lets (wr (lastI lets - o.a))) (junk := junk) (by simp [setLast])
      have hst : sto 1 S1 (.mp O g (lets.length - 1)) (.int .i64 (IntKind.wrap .i64 (lastI lets - o.a))) = some (S1.set O (.cells g (hcellsI (setLast lets (wr (lastI lets - o.a))) ++ junk) 0)) := by
        rw [sto_atG hO1 (by rw [List.length_append]; simp [hcellsI]; omega) rfl rfl, hc_last hl0]
      refine ⟨_, g, ?_, hN2, ?_⟩
      · refine (bf rfl).trans ?_
        refine (br (aI _)).trans ?_
        refine (bf (dfalse h6)).trans ?_
        refine (br (aI _)).trans ?_
        refine (bf (dfalse h11)).trans ?_
        refine (br (aI _)).trans ?_
        refine (bt (dtrue h12)).trans ?_
        refine (rdM hN.hB (k := 8) rfl).trans ?_
        refine (rdO (k := 1) rfl).trans ?_
        refine (br (aI _)).trans ?_
        refine (br (aI _)).trans ?_
        refine (wrM hN.hB (by show 8 < 13; omega) rfl rfl).trans ?_
        rw [← hS1]
        refine (cr (lets_spec hN1 hl0 hl1)).trans ?_
        refine (it rfl).trans ?_
        refine (br (show nilCk (.mp O g (lets.length - 1)) = some _ from rfl)).trans ?_
        refine (br (lets_get hN1 hl0)).trans ?_
        refine (rdO (k := 1) rfl).trans ?_
        refine (br (aI _)).trans ?_
        refine (br (aI _)).trans ?_
        refine (br (show nilCk (.mp O g (lets.length - 1)) = some _ from rfl)).trans ?_
        exact br hst
      · rw [hS1]
        exact (Keeps.set (by omega)).trans (Keeps.set (by omega))
    rw [if_neg h12]
    refine ⟨S, g, ?_, hN, Keeps.refl _ _⟩
    refine (bf rfl).trans ?_
    refine (br (aI _)).trans ?_
    refine (bf (dfalse h6)).trans ?_
    refine (br (aI _)).trans ?_
    refine (bf (dfalse h11)).trans ?_
    refine (br (aI _)).trans ?_
    exact bf (dfalse h12)
  have bfn : decide (n < n) = false := dfalse (by omega)
  by_cases h4 : o.k = 4
  · obtain ⟨S', g', e1, e2⟩ := core (decide (o.k = 4)) (by simp [h4])
    refine ⟨S', g', ?_, e2⟩
    refine (bf bfn).trans ?_
    refine (rdO (k := 0) rfl).trans ?_
    refine (br (aI _)).trans ?_
    refine (bf (dfalse h3)).trans ?_
    refine (br (aI _)).trans ?_
    exact (bt (dtrue h4)).trans e1
  · obtain ⟨S', g', e1, e2⟩ := core (decide (o.k = 5)) (by simp [h4])
    refine ⟨S', g', ?_, e2⟩
    refine (bf bfn).trans ?_
    refine (rdO (k := 0) rfl).trans ?_
    refine (br (aI _)).trans ?_
    refine (bf (dfalse h3)).trans ?_
    refine (br (aI _)).trans ?_
    refine (bf (dfalse h4)).trans ?_
    refine (br (aI _)).trans ?_
    exact e1

theorem done_spec (H : Prg p P tx cd sx bl S) (hN : Now P V A O B k g lets ar S) (hl0 : 0 < lets.length) (hl1 : lets.length ≤ 1050000) {o : OpA} {lv : AV} (hl : IntV o.l lv) (i : Nat) (hk4 : o.k = 4 ∨ o.k = 5 → 0 ≤ o.a ∧ o.a < ((p.texts.length : Nat) : Int)) (hk6 : o.k = 6 → 1 < lets.length) (hb : ∀ x ∈ belongsA o, 0 ≤ x.1 ∧ x.1 < ((ar.length : Nat) : Int)) :
    ∃ S' g', CallR ap 37 [.mp B 0 0, .int .i64 ((i : Nat) : Int), .ip (oc o lv)] S = some (.ret (.tup []), S') ∧ Now P V A O B (doneK p i o k lets).1 g' (doneK p i o k lets).2 (arGo k lets o ar (belongsA o)) S' ∧ Keeps (V + 1) S S' := by
  have hBl := (List.getElem?_eq_some_iff.1 hN.hB).1
  have h1 := hN.n1; have h2 := hN.n2; have h3 := hN.n3; have h4 := hN.n4
  obtain ⟨cv, hc, hcv⟩ := belongs_spec hl S
  obtain ⟨S1, e1, e2, e3⟩ := done_loop (lv := lv) hcv ((i : Nat) : Int) hl1 (belongsA o).length 0 S ar (by omega) (by omega) hN (by simpa using hb)
  have H1 : Prg p P tx cd sx bl S1 := H.mono (keeps_weak e3 (by omega))
  obtain ⟨S', g', f1, f2, f3⟩ := kinds_spec H1 e2 hl0 hl1 (lv := lv) i cv (((belongsA o).length : Nat) : Int) hk4 hk6
  refine ⟨S', g', ?_, by simpa using f2, e3.trans f3⟩
  have hb2 : verify_block_done.b (.mp B 0 0) ((i : Nat) : Int) (.ip (oc o lv)) S = some ⟨.ret (.tup []), none, S'⟩ := by
    rw [verify_block_done.b_eq]
    refine (cr hc).trans ?_
    refine (br hcv.len).trans ?_
    exact e1.trans f1
  rw [verify_block_done.call, hb2]
  rfl
end
end Go.Proofs.YtcgepgahgihojaaDoor
