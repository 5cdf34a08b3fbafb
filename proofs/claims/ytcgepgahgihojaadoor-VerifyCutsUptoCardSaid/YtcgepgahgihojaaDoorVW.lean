/- Programs: the law of trees. -/
import Derived.Test.YtcgepgahgihojaaDoorVB
import Derived.Test.YtcgepgahgihojaaDoorVT
namespace Go.Proofs.YtcgepgahgihojaaDoor
open Go.St Go.Lib
set_option linter.unusedVariables false
set_option linter.unusedSimpArgs false

/-! ### Counts -/
def Cn (ar : List Ar) (cnt : List Int) : Prop := cnt.length = ar.length ∧ ∀ j, j < ar.length → cnt.getD j 0 = if (arAt ar j).owned = true then 1 else 0
theorem Cn.set {ar : List Ar} {cnt : List Int} (h : Cn ar cnt) {x : Nat} {a : Ar} (hx : x < ar.length) (ho : (arAt ar x).owned = false) (ha : a.owned = true) : Cn (ar.set x a) (cnt.set x (IntKind.wrap .i64 (cnt.getD x 0 + 1))) := by
  obtain ⟨h1, h2⟩ := h
  have h0 := h2 x hx
  rw [if_neg (by rw [ho]; simp)] at h0
  refine ⟨by simp [h1], fun j hj => ?_⟩
  rw [List.length_set] at hj
  rw [arAt_set hx, List.getD_eq_getElem?_getD]
  by_cases hjx : j = x
  · subst hjx
    rw [List.getElem?_set_self (by omega), if_pos rfl, if_pos ha, h0]
    rfl
  · rw [List.getElem?_set_ne (Ne.symm hjx), if_neg hjx, ← List.getD_eq_getElem?_getD]
    exact h2 j hj
theorem arGo_at {k : Bk} {l : List Int} {o : OpA} {num : Int} : ∀ {bs : List (Int × Int)} {ar : List Ar}, Free num ar bs → ∀ x ∈ bs, arAt (arGo k l o ar bs) x.1.toNat = arNew k l o x.2 := by
  intro bs
  induction bs with
  | nil => intro ar _ x hx; simp at hx
  | cons y r ih =>
    rintro ar ⟨h1, h2, h3, h4, h5, h6⟩ x hx
    have hy : y.1.toNat < ar.length := by omega
    have hf := h6.set (a := arNew k l o y.2) hy fun z hz => by have := h5 z hz; omega
    simp only [arGo]
    rcases List.mem_cons.1 hx with rfl | hx
    · have e : arAt (ar.set x.1.toNat (arNew k l o x.2)) x.1.toNat = arNew k l o x.2 := by rw [arAt_set hy, if_pos rfl]
      rw [(arGo_le hf).2 x.1.toNat (.inl (by rw [e]; rfl)), e]
    · exact ih hf x hx

def DpOk (ar : List Ar) : Prop := ∀ j, 0 ≤ (arAt ar j).depth ∧ (arAt ar j).depth ≤ 64
theorem arGo_dep {k : Bk} {l : List Int} {o : OpA} {num : Int} : ∀ {bs : List (Int × Int)} {ar : List Ar}, Free num ar bs → (∀ x ∈ bs, 0 ≤ wr (k.depth + x.2) ∧ wr (k.depth + x.2) ≤ 64) → DpOk ar → DpOk (arGo k l o ar bs) := by
  intro bs
  induction bs with
  | nil => intro ar _ _ h; exact h
  | cons y r ih =>
    rintro ar ⟨h1, h2, h3, h4, h5, h6⟩ hx hd
    have hy : y.1.toNat < ar.length := by omega
    refine ih (h6.set (a := arNew k l o y.2) hy fun z hz => by have := h5 z hz; omega) (fun x hx' => hx x (by simp [hx'])) fun j => ?_
    rw [arAt_set hy]
    by_cases hj : j = y.1.toNat
    · rw [if_pos hj]
      exact hx y (by simp)
    · rw [if_neg hj]
      exact hd j
theorem ops_depths {p : PrA} {d0 : Int} : ∀ (os : List OpA) (q : Nat) (k : Bk) (l : List Int) (ar : List Ar), (opsGo p os q k l ar).1 = none → Dep d0 k l → 0 ≤ k.num → ar.length = p.blocks.length → DpOk ar → DpOk (opsGo p os q k l ar).2.2.2 := by
  intro os
  induction os with
  | nil => intro q k l ar _ _ _ _ h; exact h
  | cons o r ih =>
    intro q k l ar ho hD hk har hd
    simp only [opsGo] at ho ⊢
    by_cases hE : opE p q o k l ar = 0
    · rw [if_pos hE] at ho ⊢
      obtain ⟨e1, e2, e3, e4, e5, e6⟩ := opE_zero hE
      obtain ⟨d1, d2, d3, d4, d5⟩ := doneK_len (p := p) (i := q) (k := k) hD.len (fun h6 => (shape_facts e3 h6).1)
      have hf := own_free e4 hk har
      refine ih _ _ _ _ ho (hD.done hE) (by rw [d3]; exact hk) (by rw [arGo_len]; exact har) (arGo_dep hf (fun x hx => ?_) hd)
      obtain ⟨t1, t2, t3⟩ := take_depth hD hE hx
      rw [t1]
      have := hD.ge
      have := hD.d0
      omega
    · rw [if_neg hE] at ho
      cases ho

/-! ### The blocks of an operation, in a row -/
theorem buf_int {n : Nat} {st : Sto} {t : AV} {xs : List Int} (h : BufT 1 n st t (hcellsI xs) xs.length) : IntV xs t := by
  rcases h with ⟨rfl, h1, h2⟩ | ⟨i, g, _, rfl, _, _⟩
  · obtain rfl := List.eq_nil_of_length_eq_zero h2
    exact el_nil
  · refine ⟨rfl, rfl, rfl, fun i hi => ⟨_, ?_, rfl⟩⟩
    have hc : (i + 1) * 1 ≤ (hcellsI xs).length := by simp [hcellsI]; omega
    simp only [ia, idx_nat hi, Option.bind_some, hc, if_true]
    have : ((hcellsI xs).drop (i * 1)).take 1 = [.int .i64 (xs.getD i 0)] := by
      rw [Nat.mul_one, List.drop_eq_getElem_cons (by simpa [hcellsI] using hi)]
      simp [hcellsI, List.getD_eq_getElem?_getD, List.getElem?_eq_getElem hi]
    rw [this]
theorem push1 {n : Nat} {st : Sto} {t : AV} {pre : List Int} {x : Int} (h : BufT 1 n st t (hcellsI pre) pre.length) (hn : n ≤ st.length) (hb : pre.length ≤ 100000000) :
    ∃ t' st', appL false false 1 8 t (.is [.int .i64 x] 1 .full) st = some (t', st') ∧ BufT 1 n st' t' (hcellsI (pre ++ [x])) (pre ++ [x]).length ∧ Keeps n st st' ∧ st.length ≤ st'.length := by
  have ht : tailOf false 1 st (.is [.int .i64 x] 1 .full) = some ([.int .i64 x], 1) := rfl
  have hr : room 8 (pre.length + 1) = true := by simp [room]; omega
  obtain ⟨t', st', a, b, c, d⟩ := bufT_add h hn ht (by omega) rfl hr
  refine ⟨t', st', a, ?_, c, d⟩
  have : hcellsI (pre ++ [x]) = hcellsI pre ++ [.int .i64 x] := by simp [hcellsI]
  rw [this, List.length_append]
  exact b

/-- The law's memory. -/
structure LS (tx cd sx bl : AV) (W : Nat) (cnt : List Int) (S : Sto) : Prop where
  hp : S[0]? = some (.cells 0 [tx, cd, sx, bl] 0)
  hw : S[W]? = some (.cells 0 (hcellsI cnt) 0)
  n0 : 0 < W
theorem LS.keep {tx cd sx bl : AV} {W : Nat} {cnt : List Int} {S S' : Sto} (h : LS tx cd sx bl W cnt S) (k : Keeps (W + 1) S S') : LS tx cd sx bl W cnt S' :=
  ⟨by rw [k.at_ 0 (by have := h.n0; omega)]; exact h.hp, by rw [k.at_ W (by omega)]; exact h.hw, h.n0⟩

section
variable {p : PrA} {tx cd sx bl : AV} {W : Nat}

theorem bs_loop (hR : Read p tx cd sx bl) {i q : Nat} (hi : i < p.blocks.length) {o : OpA} {k : Bk} {l : List Int} {t : AV} (ht : IntV ((belongsA o).map Prod.fst) t) {n0 : Nat} (hnW : n0 ≤ W) : ∀ (m j : Nat) (ar : List Ar) (cnt : List Int) (S : Sto), j + m = (belongsA o).length → LS tx cd sx bl W cnt S → Cn ar cnt → ar.length = p.blocks.length → Free ((i : Nat) : Int) ar ((belongsA o).drop j) → (∀ x ∈ (belongsA o).drop j, (p.blocks.getD i default).depth ≤ (p.blocks.getD x.1.toNat default).depth) →
    ∃ S' cnt', stencillaw22_VerifyTrees.p11111101001001001001111100 0 (.ms W 0 0 p.blocks.length 1) ((i : Nat) : Int) ((q : Nat) : Int) t ((j : Nat) : Int) S = stencillaw22_VerifyTrees.p1111110100100100 0 (.ms W 0 0 p.blocks.length 1) ((i : Nat) : Int) (IntKind.wrap .i64 (((q : Nat) : Int) + 1)) S' ∧ LS tx cd sx bl W cnt' S' ∧ Cn (arGo k l o ar ((belongsA o).drop j)) cnt' ∧ Keeps n0 S S' := by
  have hbl := belongsA_len o
  intro m
  induction m with
  | zero =>
    intro j ar cnt S hjm hS hC har hF hD
    have hj : j = (belongsA o).length := by omega
    subst hj
    refine ⟨S, cnt, ?_, hS, by rw [List.drop_length]; exact hC, Keeps.refl _ _⟩
    rw [stencillaw22_VerifyTrees.p11111101001001001001111100_eq]
    refine (br ht.1).trans ?_
    rw [List.length_map]
    exact bf (dfalse (by omega))
  | succ m ih =>
    intro j ar cnt S hjm hS hC har hF hD
    have hj : j < (belongsA o).length := by omega
    obtain ⟨x, hx, hd⟩ := drop_pair hj
    rw [hd] at hF hD
    obtain ⟨f1, f2, f3, f4, f5, f6⟩ := hF
    obtain ⟨y, hy⟩ : ∃ y : Nat, x.1 = (y : Int) := ⟨x.1.toNat, by omega⟩
    have hyt : x.1.toNat = y := by omega
    have hyl : y < p.blocks.length := by omega
    obtain ⟨cs, hia, rfl⟩ := ht.2.2.2 j (by rw [List.length_map]; exact hj)
    have hg : ((belongsA o).map Prod.fst).getD j 0 = x.1 := by
      rw [List.getD_eq_getElem?_getD, List.getElem?_map, hx]; rfl
    rw [hg] at hia
    have w1 : IntKind.wrap .i64 (((j : Nat) : Int) + 1) = ((j + 1 : Nat) : Int) := w64 _ (by omega) (by omega)
    have r3 : ld false 1 S (.mp 0 0 3) = some bl := m_get hS.hp rfl
    obtain ⟨cx, hcx, ox, ux, rfl, _⟩ := hR.hbl.2.2.2 y hyl
    obtain ⟨ci, hci, oi, ui, rfl, _⟩ := hR.hbl.2.2.2 i hi
    have hcl : cnt.length = p.blocks.length := by rw [hC.1, har]
    have hiw : ia 1 (.ms W 0 0 p.blocks.length 1) (.int .i64 x.1) = some (.mp W 0 y) := by
      rw [hy]
      simp only [ia, if_true, idx_nat hyl, Option.bind_some, Nat.zero_add, Nat.mul_one]
    have hcy : ld false 1 S (.mp W 0 y) = some (.int .i64 (cnt.getD y 0)) := m_get hS.hw (by
      have : y < cnt.length := by omega
      simp [hcellsI, List.getElem?_eq_getElem this, List.getD_eq_getElem?_getD])
    have hWl := (List.getElem?_eq_some_iff.1 hS.hw).1
    obtain ⟨cnt1, hcnt1⟩ : ∃ c, c = cnt.set y (IntKind.wrap .i64 (cnt.getD y 0 + 1)) := ⟨_, rfl⟩
    have hst : sto 1 S (.mp W 0 y) (.int .i64 (IntKind.wrap .i64 (cnt.getD y 0 + 1))) = some (S.set W (.cells 0 (hcellsI cnt1) 0)) := by
      rw [sto_at hS.hw (by simp [hcellsI]; omega) rfl rfl, hcnt1]
      simp [hcellsI, List.map_set]
    have hS1 : LS tx cd sx bl W cnt1 (S.set W (.cells 0 (hcellsI cnt1) 0)) := ⟨by rw [List.getElem?_set_ne (by have := hS.n0; omega)]; exact hS.hp, List.getElem?_set_self hWl, hS.n0⟩
    have hC1 : Cn (ar.set y (arNew k l o x.2)) cnt1 := by
      rw [hcnt1]
      exact hC.set (by omega) (by rw [← hyt]; exact f4) rfl
    obtain ⟨S', cnt', e1, e2, e3, e4⟩ := ih (j + 1) (ar.set y (arNew k l o x.2)) cnt1 _ (by omega) hS1 hC1 (by simp [har]) (f6.set (by omega) fun z hz => by have := f5 z hz; omega) fun z hz => hD z (by simp [hz])
    refine ⟨S', cnt', ?_, e2, by rw [hd]; simp only [arGo]; rw [hyt]; exact e3, (Keeps.set (by omega)).trans e4⟩
    have hdx := hD x (by simp)
    rw [hyt] at hdx
    rw [← e1, stencillaw22_VerifyTrees.p11111101001001001001111100_eq]
    refine (br ht.1).trans ?_
    rw [List.length_map]
    refine (bt (dtrue (by omega))).trans ?_
    refine (br hia).trans ?_
    refine (br (l1 _ _)).trans ?_
    refine (br (aI _)).trans ?_
    refine (bf (dfalse (by omega))).trans ?_
    refine (br hia).trans ?_
    refine (br (l1 _ _)).trans ?_
    refine (br (show lenL (.ms W 0 0 p.blocks.length 1) = some p.blocks.length from rfl)).trans ?_
    refine (br (aI _)).trans ?_
    refine (bf (dfalse (by omega))).trans ?_
    refine (br r3).trans ?_
    refine (br hia).trans ?_
    refine (br (l1 _ _)).trans ?_
    refine (br (show ia 3 bl (.int .i64 x.1) = _ by rw [hy]; exact hcx)).trans ?_
    refine (br (show fa 0 1 (.ip [.int .i64 (p.blocks.getD y default).depth, ox, ux]) = some (.ip [.int .i64 (p.blocks.getD y default).depth]) from rfl)).trans ?_
    refine (br (l1 _ _)).trans ?_
    refine (br r3).trans ?_
    refine (br hci).trans ?_
    refine (br (show fa 0 1 (.ip [.int .i64 (p.blocks.getD i default).depth, oi, ui]) = some (.ip [.int .i64 (p.blocks.getD i default).depth]) from rfl)).trans ?_
    refine (br (l1 _ _)).trans ?_
    refine (br (aI _)).trans ?_
    refine (br (aI _)).trans ?_
    rw [dfalse (show ¬ (p.blocks.getD y default).depth < (p.blocks.getD i default).depth by omega), stencillaw22_VerifyTrees.p1111110100100100100111110010001_eq]
    refine (bf rfl).trans ?_
    refine (br hia).trans ?_
    refine (br (l1 _ _)).trans ?_
    refine (br hiw).trans ?_
    refine (br hcy).trans ?_
    refine (br (aI _)).trans ?_
    refine (br hiw).trans ?_
    refine (br hst).trans ?_
    rw [w1]

/-- From an operation to its blocks. -/
theorem op_start (hR : Read p tx cd sx bl) {i q : Nat} (hi : i < p.blocks.length) (hq : q < (p.blocks.getD i default).ops.length) {cnt : List Int} {S : Sto} (hS : LS tx cd sx bl W cnt S) (hWl : W < S.length) :
    ∃ t S', stencillaw22_VerifyTrees.p1111110100100100 0 (.ms W 0 0 p.blocks.length 1) ((i : Nat) : Int) ((q : Nat) : Int) S = stencillaw22_VerifyTrees.p11111101001001001001111100 0 (.ms W 0 0 p.blocks.length 1) ((i : Nat) : Int) ((q : Nat) : Int) t ((0 : Nat) : Int) S' ∧ IntV ((belongsA ((p.blocks.getD i default).ops.getD q default)).map Prod.fst) t ∧ Keeps (W + 1) S S' := by
  obtain ⟨o, ho⟩ : ∃ o, o = (p.blocks.getD i default).ops.getD q default := ⟨_, rfl⟩
  obtain ⟨ci, hci, oi, ui, rfl, hov, huv⟩ := hR.hbl.2.2.2 i hi
  obtain ⟨cq, hcq, lv, rfl, hlv⟩ := hov.2.2.2 q hq
  rw [← ho] at hcq ⊢
  have r3 : ld false 1 S (.mp 0 0 3) = some bl := m_get hS.hp rfl
  have hfa : fa 1 1 (.ip [.int .i64 (p.blocks.getD i default).depth, oi, ui]) = some (.ip [oi]) := rfl
  obtain ⟨S1, hS1⟩ : ∃ S1, S1 = S ++ [Ob.cells 0 (oc o lv) 0] := ⟨_, rfl⟩
  have hall : (oc o lv).all AV.isCell = true := by
    simp only [oc, List.all_cons, List.all_nil, hlv.2.1, Bool.and_true]
    rfl
  have hld : ld true 5 S (.ip (oc o lv)) = some (.agg (oc o lv)) := rfl
  have hst : sto 5 (S ++ [Ob.cells 0 [.int .i64 0, .int .i64 0, .int .i64 0, .int .i64 0, .nils] 0]) (.mp S.length 0 0) (.agg (oc o lv)) = some S1 := by rw [hS1]; exact m_new (cs := [.int .i64 0, .int .i64 0, .int .i64 0, .int .i64 0, .nils]) (cs' := oc o lv) hall rfl rfl
  have hl1 : S1.length = S.length + 1 := by rw [hS1]; simp
  have hk1 : Keeps (W + 1) S S1 := by rw [hS1]; exact Keeps.app (by omega)
  have cell : ∀ {T : Sto} {j : Nat} {c : AV}, Keeps S1.length S1 T → (oc o lv)[j]? = some c → ld false 1 T (.mp S.length 0 j) = some c := fun {T j c} hT hj => m_get (g := 0) (fz := 0) (cs := oc o lv) (by rw [hT.at_ _ (by omega), hS1]; simp) hj
  have kk : Keeps S1.length S1 S1 := Keeps.refl _ _
  have lit : ∀ (x : Int) (T : Sto), (litS false 1 1 (fillA (fun i => some (i * 1, 1)) [.int .i64 0] [(0, .int .i64 x)]) T) = some (.is [.int .i64 x] 1 .full, T) := fun _ _ => rfl
  have pre : stencillaw22_VerifyTrees.p1111110100100100 0 (.ms W 0 0 p.blocks.length 1) ((i : Nat) : Int) ((q : Nat) : Int) S = stencillaw22_VerifyTrees.p11111101001001001001101 0 (.ms W 0 0 p.blocks.length 1) ((i : Nat) : Int) ((q : Nat) : Int) S.length (decide (o.k = 8 ∧ o.b ≠ 0)) S1 := by
    rw [stencillaw22_VerifyTrees.p1111110100100100_eq]
    refine (br r3).trans ?_
    refine (br hci).trans ?_
    refine (br hfa).trans ?_
    refine (br (l1 _ _)).trans ?_
    refine (br hov.1).trans ?_
    refine (bt (dtrue (by omega))).trans ?_
    refine (br r3).trans ?_
    refine (br hci).trans ?_
    refine (br hfa).trans ?_
    refine (br (l1 _ _)).trans ?_
    refine (br hcq).trans ?_
    refine (br hld).trans ?_
    refine (br hst).trans ?_
    refine (br (cell kk (j := 0) rfl)).trans ?_
    refine (br (aI _)).trans ?_
    by_cases h8 : o.k = 8
    · refine (bt (dtrue h8)).trans ?_
      refine (br (cell kk (j := 2) rfl)).trans ?_
      refine (br (aI _)).trans ?_
      congr 1
      by_cases hb : o.b = 0 <;> simp [h8, hb]
    · refine (bf (dfalse h8)).trans ?_
      rw [dfalse (show ¬ (o.k = 8 ∧ o.b ≠ 0) from fun h => h8 h.1)]
  -- the first block
  have first : ∃ t1 S2, stencillaw22_VerifyTrees.p11111101001001001001101 0 (.ms W 0 0 p.blocks.length 1) ((i : Nat) : Int) ((q : Nat) : Int) S.length (decide (o.k = 8 ∧ o.b ≠ 0)) S1 = stencillaw22_VerifyTrees.p1111110100100100100111 0 (.ms W 0 0 p.blocks.length 1) ((i : Nat) : Int) ((q : Nat) : Int) S.length t1 S2 ∧ BufT 1 S1.length S2 t1 (hcellsI (if o.k = 8 ∧ o.b ≠ 0 then [o.b] else [])) (if o.k = 8 ∧ o.b ≠ 0 then [o.b] else []).length ∧ Keeps S1.length S1 S2 ∧ S1.length ≤ S2.length := by
    by_cases h : o.k = 8 ∧ o.b ≠ 0
    · obtain ⟨t1, S2, a, b, c, d⟩ := push1 (n := S1.length) (st := S1) (t := .nils) (pre := []) (x := o.b) (.inl ⟨rfl, rfl, rfl⟩) (Nat.le_refl _) (by simp)
      refine ⟨t1, S2, ?_, by rw [if_pos h]; exact b, c, d⟩
      rw [dtrue h, stencillaw22_VerifyTrees.p11111101001001001001101_eq]
      refine (bt rfl).trans ?_
      refine (br (cell kk (j := 2) rfl)).trans ?_
      refine (br (lit _ _)).trans ?_
      exact br a
    · refine ⟨.nils, S1, ?_, by rw [if_neg h]; exact .inl ⟨rfl, rfl, rfl⟩, kk, Nat.le_refl _⟩
      rw [dfalse h, stencillaw22_VerifyTrees.p11111101001001001001101_eq]
      exact bf rfl
  obtain ⟨t1, S2, a1, b1, c1, d1⟩ := first
  obtain ⟨xs, hxs⟩ : ∃ xs, xs = (if o.k = 8 ∧ o.b ≠ 0 then [o.b] else []) := ⟨_, rfl⟩
  rw [← hxs] at b1
  have hxl : xs.length ≤ 1 := by rw [hxs]; split <;> simp
  have mid : ∀ b, b = decide (o.k = 9 ∨ o.k = 10 ∨ (o.k = 8 ∧ o.c ≠ 0)) → ∃ t S', stencillaw22_VerifyTrees.p111111010010010010011101 0 (.ms W 0 0 p.blocks.length 1) ((i : Nat) : Int) ((q : Nat) : Int) S.length t1 b S2 = stencillaw22_VerifyTrees.p11111101001001001001111100 0 (.ms W 0 0 p.blocks.length 1) ((i : Nat) : Int) ((q : Nat) : Int) t ((0 : Nat) : Int) S' ∧ IntV ((belongsA o).map Prod.fst) t ∧ Keeps (W + 1) S S' := by
    intro b hb
    have hlist : (belongsA o).map Prod.fst = xs ++ (if o.k = 9 ∨ o.k = 10 ∨ (o.k = 8 ∧ o.c ≠ 0) then [o.c] else []) := by
      rw [hxs]
      unfold belongsA
      by_cases h8 : o.k = 8
      · by_cases hb : o.b = 0 <;> by_cases hc : o.c = 0 <;> simp [h8, hb, hc, someA]
      · by_cases h9 : o.k = 9
        · simp [h9]
        · by_cases h10 : o.k = 10
          · simp [h10]
          · simp [h8, h9, h10]
    rw [stencillaw22_VerifyTrees.p111111010010010010011101_eq, hlist]
    by_cases h : o.k = 9 ∨ o.k = 10 ∨ (o.k = 8 ∧ o.c ≠ 0)
    · rw [dtrue h] at hb
      subst hb
      obtain ⟨t2, S3, a, b, c, d⟩ := push1 (x := o.c) b1 (by omega) (by omega)
      refine ⟨t2, S3, ?_, by rw [if_pos h]; exact buf_int b, hk1.trans (keeps_weak (c1.trans c) (by omega))⟩
      refine (bt rfl).trans ?_
      refine (br (cell c1 (j := 3) rfl)).trans ?_
      refine (br (lit _ _)).trans ?_
      refine (br a).trans ?_
      rw [stencillaw22_VerifyTrees.p11111101001001001001111_eq]
      rfl
    · rw [dfalse h] at hb
      subst hb
      refine ⟨t1, S2, ?_, by rw [if_neg h, List.append_nil]; exact buf_int b1, hk1.trans (keeps_weak c1 (by omega))⟩
      refine (bf rfl).trans ?_
      rw [stencillaw22_VerifyTrees.p11111101001001001001111_eq]
      rfl
  rw [pre, a1, stencillaw22_VerifyTrees.p1111110100100100100111_eq]
  have via2 : ∀ {a b : Option Res} {X : AV → Sto → Option Res} {Q : AV → Sto → Prop}, a = b → (∃ t S', b = X t S' ∧ Q t S') → ∃ t S', a = X t S' ∧ Q t S' := fun h k => by rw [h]; exact k
  refine via2 (br (cell c1 (j := 0) rfl)) ?_
  refine via2 (br (aI _)) ?_
  by_cases h9 : o.k = 9
  · refine via2 (bt (dtrue h9)) ?_
    exact mid true (by simp [h9])
  · refine via2 (bf (dfalse h9)) ?_
    refine via2 (br (cell c1 (j := 0) rfl)) ?_
    refine via2 (br (aI _)) ?_
    by_cases h10 : o.k = 10
    · refine via2 (bt (dtrue h10)) ?_
      exact mid true (by simp [h10])
    · refine via2 (bf (dfalse h10)) ?_
      refine via2 (br (cell c1 (j := 0) rfl)) ?_
      refine via2 (br (aI _)) ?_
      by_cases h8 : o.k = 8
      · refine via2 (bt (dtrue h8)) ?_
        refine via2 (br (cell c1 (j := 3) rfl)) ?_
        refine via2 (br (aI _)) ?_
        exact mid _ (by by_cases hc : o.c = 0 <;> simp [h8, hc])
      · refine via2 (bf (dfalse h8)) ?_
        exact mid false (by simp [h8, h9, h10])

theorem drop_op {os : List OpA} {q : Nat} (h : q < os.length) : os.drop q = os.getD q default :: os.drop (q + 1) := by
  rw [List.drop_eq_getElem_cons h, List.getD_eq_getElem?_getD, List.getElem?_eq_getElem h]; rfl

theorem ops_trees (hR : Read p tx cd sx bl) {i : Nat} (hi : i < p.blocks.length) {arF : List Ar} (hF : ∀ j, j < p.blocks.length → (p.blocks.getD j default).depth = (arAt arF j).depth) : ∀ (m q : Nat) (k : Bk) (l : List Int) (ar : List Ar) (cnt : List Int) (S : Sto), q + m = (p.blocks.getD i default).ops.length → LS tx cd sx bl W cnt S → W < S.length → Cn ar cnt → ar.length = p.blocks.length → Dep (p.blocks.getD i default).depth k l → k.num = ((i : Nat) : Int) → (opsGo p ((p.blocks.getD i default).ops.drop q) q k l ar).1 = none → Le ((i : Nat) : Int) (opsGo p ((p.blocks.getD i default).ops.drop q) q k l ar).2.2.2 arF →
    ∃ S' cnt', stencillaw22_VerifyTrees.p1111110100100100 0 (.ms W 0 0 p.blocks.length 1) ((i : Nat) : Int) ((q : Nat) : Int) S = stencillaw22_VerifyTrees.p1111110100 0 (.ms W 0 0 p.blocks.length 1) (IntKind.wrap .i64 (((i : Nat) : Int) + 1)) S' ∧ LS tx cd sx bl W cnt' S' ∧ W < S'.length ∧ Cn (opsGo p ((p.blocks.getD i default).ops.drop q) q k l ar).2.2.2 cnt' := by
  have hob := (hR.hsm.o i).1
  intro m
  induction m with
  | zero =>
    intro q k l ar cnt S hqm hS hWl hC har hD hk ho hle
    have hq : q = (p.blocks.getD i default).ops.length := by omega
    subst hq
    obtain ⟨ci, hci, oi, ui, rfl, hov, huv⟩ := hR.hbl.2.2.2 i hi
    refine ⟨S, cnt, ?_, hS, hWl, by rw [List.drop_length]; exact hC⟩
    rw [stencillaw22_VerifyTrees.p1111110100100100_eq]
    refine (br (m_get hS.hp rfl)).trans ?_
    refine (br hci).trans ?_
    refine (br (show fa 1 1 (.ip [.int .i64 (p.blocks.getD i default).depth, oi, ui]) = some (.ip [oi]) from rfl)).trans ?_
    refine (br (l1 _ _)).trans ?_
    refine (br hov.1).trans ?_
    exact bf (dfalse (by omega))
  | succ m ih =>
    intro q k l ar cnt S hqm hS hWl hC har hD hk ho hle
    have hq : q < (p.blocks.getD i default).ops.length := by omega
    have w1 : IntKind.wrap .i64 (((q : Nat) : Int) + 1) = ((q + 1 : Nat) : Int) := w64 _ (by omega) (by omega)
    rw [drop_op hq] at ho hle ⊢
    simp only [opsGo] at ho hle ⊢
    obtain ⟨o, hoo⟩ : ∃ o, o = (p.blocks.getD i default).ops.getD q default := ⟨_, rfl⟩
    rw [← hoo] at ho hle ⊢
    by_cases hE : opE p q o k l ar = 0
    · rw [if_pos hE] at ho hle ⊢
      obtain ⟨e1, e2, e3, e4, e5, e6⟩ := opE_zero hE
      obtain ⟨d1, d2, d3, d4, d5⟩ := doneK_len (p := p) (i := q) (k := k) hD.len (fun h6 => (shape_facts e3 h6).1)
      have hf := own_free e4 (by omega) har
      rw [hk] at hf
      obtain ⟨t, S1, a1, a2, a3⟩ := op_start hR hi hq hS hWl
      rw [← hoo] at a2
      have hl2 := ops_le ho (n := ((i : Nat) : Int)) (by rw [d3, hk]) (by omega) (by rw [arGo_len]; exact har) d1
      have hdeep : ∀ x ∈ (belongsA o).drop 0, (p.blocks.getD i default).depth ≤ (p.blocks.getD x.1.toNat default).depth := by
        intro x hx
        rw [List.drop_zero] at hx
        obtain ⟨t1, t2, t3⟩ := take_depth hD hE hx
        have hat := arGo_at (k := k) (l := l) (o := o) hf x hx
        have hx2 := own_facts _ _ e4 x hx
        have hin : x.1.toNat < p.blocks.length := by omega
        rw [hF _ hin, (hl2.trans hle).2 x.1.toNat (.inl (by rw [hat]; rfl)), hat]
        show _ ≤ wr (k.depth + x.2)
        rw [t1]
        have := hD.ge
        omega
      have hl1 : S.length ≤ S1.length := a3.len
      obtain ⟨S2, cnt2, b1, b2, b3, b4⟩ := bs_loop (k := k) (l := l) hR hi (q := q) a2 (Nat.le_refl W) (belongsA o).length 0 ar cnt S1 (by omega) (hS.keep a3) hC har (by rw [List.drop_zero]; exact hf) hdeep
      rw [List.drop_zero] at b3
      have hl3 : S1.length ≤ S2.length := b4.len
      obtain ⟨S', cnt', c1, c2, c3, c4⟩ := ih (q + 1) _ _ _ cnt2 S2 (by omega) b2 (by omega) b3 (by rw [arGo_len]; exact har) (hD.done hE) (by rw [d3, hk]) ho hle
      refine ⟨S', cnt', ?_, c2, c3, c4⟩
      rw [a1, b1, w1]
      exact c1
    · rw [if_neg hE] at ho
      cases ho

theorem blocks_trees (hR : Read p tx cd sx bl) {arF : List Ar} (hF : ∀ j, j < p.blocks.length → (p.blocks.getD j default).depth = (arAt arF j).depth) : ∀ (m i : Nat) (ar : List Ar) (cnt : List Int) (S : Sto), i + m = p.blocks.length → LS tx cd sx bl W cnt S → W < S.length → Cn ar cnt → ar.length = p.blocks.length → (blkGo p (p.blocks.drop i) i ar).2.2 = 0 → arF = blkAr p (p.blocks.drop i) i ar → (∀ j, (0 ≤ (arAt ar j).depth ∧ (arAt ar j).depth ≤ 64)) →
    ∃ S' cnt', stencillaw22_VerifyTrees.p1111110100 0 (.ms W 0 0 p.blocks.length 1) ((i : Nat) : Int) S = stencillaw22_VerifyTrees.p11111110100 0 (.ms W 0 0 p.blocks.length 1) 1 S' ∧ LS tx cd sx bl W cnt' S' ∧ Cn arF cnt' := by
  have hbb := hR.hsm.b
  intro m
  induction m with
  | zero =>
    intro i ar cnt S him hS hWl hC har hok hAr hdp
    have hi : i = p.blocks.length := by omega
    subst hi
    rw [List.drop_length] at hAr
    refine ⟨S, cnt, ?_, hS, by rw [hAr]; exact hC⟩
    rw [stencillaw22_VerifyTrees.p1111110100_eq]
    refine (br (m_get hS.hp rfl)).trans ?_
    refine (br hR.hbl.1).trans ?_
    exact bf (dfalse (by omega))
  | succ m ih =>
    intro i ar cnt S him hS hWl hC har hok hAr hdp
    have hi : i < p.blocks.length := by omega
    have w1 : IntKind.wrap .i64 (((i : Nat) : Int) + 1) = ((i + 1 : Nat) : Int) := w64 _ (by omega) (by omega)
    have hd : p.blocks.drop i = p.blocks.getD i default :: p.blocks.drop (i + 1) := by
      rw [List.drop_eq_getElem_cons hi, List.getD_eq_getElem?_getD, List.getElem?_eq_getElem hi]; rfl
    rw [hd] at hok hAr
    obtain ⟨h1, h2⟩ := blk_step hok
    obtain ⟨l1', l2', l3', l4', l5'⟩ := look_ok h1
    simp only [blkAr] at hAr
    have hle := blk_le h2 (by rw [lookA_len]; exact har)
    rw [← hAr, l5'] at hle
    have hD : Dep (p.blocks.getD i default).depth (mkBk i .nilp (arAt ar i)) [0] := ⟨by rw [l2']; simp [sumI, mkBk], by simp, by rw [l2']; exact (hdp i).1, (hdp i).2, by simp⟩
    obtain ⟨S1, cnt1, a1, a2, a3, a4⟩ := ops_trees hR hi hF (p.blocks.getD i default).ops.length 0 (mkBk i .nilp (arAt ar i)) [0] ar cnt S (by omega) hS hWl hC har hD rfl (by rw [List.drop_zero]; exact l3') (by rw [List.drop_zero]; exact hle.weak (by omega))
    rw [List.drop_zero, ← l5'] at a4
    have hdp2 : ∀ j, 0 ≤ (arAt (lookA p (p.blocks.getD i default) (mkBk i .nilp (arAt ar i)) [0] ar).2 j).depth ∧ (arAt (lookA p (p.blocks.getD i default) (mkBk i .nilp (arAt ar i)) [0] ar).2 j).depth ≤ 64 := by
      rw [l5']
      exact ops_depths (p.blocks.getD i default).ops 0 _ _ _ l3' hD (by show (0 : Int) ≤ ((i : Nat) : Int); omega) har hdp
    obtain ⟨S', cnt', b1, b2, b3⟩ := ih (i + 1) _ cnt1 S1 (by omega) a2 a3 a4 (by rw [lookA_len]; exact har) h2 hAr hdp2
    refine ⟨S', cnt', ?_, b2, b3⟩
    rw [stencillaw22_VerifyTrees.p1111110100_eq]
    refine (br (m_get hS.hp rfl)).trans ?_
    refine (br hR.hbl.1).trans ?_
    refine (bt (dtrue (by omega))).trans ?_
    refine a1.trans ?_
    rw [w1]
    exact b1

theorem final_loop {cnt : List Int} {S : Sto} (hR : Read p tx cd sx bl) (hS : LS tx cd sx bl W cnt S) (hcl : cnt.length = p.blocks.length) (h0 : 0 < p.blocks.length) (hc0 : cnt.getD 0 0 = 0) (hc : ∀ j, 0 < j → j < cnt.length → cnt.getD j 0 = 1) (hd0 : (p.blocks.getD 0 default).depth = 1) : ∀ (m j : Nat), j + m = p.blocks.length → 0 < j → stencillaw22_VerifyTrees.p11111110100 0 (.ms W 0 0 p.blocks.length 1) ((j : Nat) : Int) S = some ⟨.ret (.bool true), none, S⟩ := by
  have hbb := hR.hsm.b
  have hlen : lenL (.ms W 0 0 p.blocks.length 1) = some p.blocks.length := rfl
  have at_ : ∀ j, j < p.blocks.length → ia 1 (.ms W 0 0 p.blocks.length 1) (.int .i64 ((j : Nat) : Int)) = some (.mp W 0 j) ∧ ld false 1 S (.mp W 0 j) = some (.int .i64 (cnt.getD j 0)) := fun j hj => ⟨by simp only [ia, if_true, idx_nat hj, Option.bind_some, Nat.zero_add, Nat.mul_one], m_get hS.hw (by
    have : j < cnt.length := by omega
    simp [hcellsI, List.getElem?_eq_getElem this, List.getD_eq_getElem?_getD])⟩
  intro m
  induction m with
  | zero =>
    intro j hjm hj
    obtain ⟨a1, a2⟩ := at_ 0 h0
    obtain ⟨ci, hci, oi, ui, rfl, _⟩ := hR.hbl.2.2.2 0 h0
    rw [stencillaw22_VerifyTrees.p11111110100_eq]
    refine (br hlen).trans ?_
    refine (bf (dfalse (by omega))).trans ?_
    refine (br hlen).trans ?_
    refine (bt (dtrue (by omega))).trans ?_
    refine (br a1).trans ?_
    refine (br a2).trans ?_
    refine (br (aI _)).trans ?_
    refine (bt (dtrue hc0)).trans ?_
    refine (br (m_get hS.hp rfl)).trans ?_
    refine (br hci).trans ?_
    refine (br (show fa 0 1 (.ip [.int .i64 (p.blocks.getD 0 default).depth, oi, ui]) = some (.ip [.int .i64 (p.blocks.getD 0 default).depth]) from rfl)).trans ?_
    refine (br (l1 _ _)).trans ?_
    refine (br (aI _)).trans ?_
    rw [dtrue hd0]
  | succ m ih =>
    intro j hjm hj
    obtain ⟨a1, a2⟩ := at_ j (by omega)
    have w1 : IntKind.wrap .i64 (((j : Nat) : Int) + 1) = ((j + 1 : Nat) : Int) := w64 _ (by omega) (by omega)
    rw [stencillaw22_VerifyTrees.p11111110100_eq]
    refine (br hlen).trans ?_
    refine (bt (dtrue (by omega))).trans ?_
    refine (br a1).trans ?_
    refine (br a2).trans ?_
    refine (br (aI _)).trans ?_
    refine (bf (by rw [hc j hj (by omega)]; rfl)).trans ?_
    rw [w1]
    exact ih (j + 1) (by omega) (by omega)
end

theorem ver_ok {p : PrA} (h : (verA p).2.2 = 0) : (listsA p).2 = 0 ∧ 0 < p.blocks.length ∧ p.blocks.length ≤ 8192 ∧ (blkGo p p.blocks 0 (ar0 p.blocks.length)).2.2 = 0 := by
  unfold verA at h
  by_cases h1 : (listsA p).2 = 0
  · rw [if_neg (fun e => e h1)] at h
    by_cases h2 : p.blocks.length = 0 ∨ 8192 < p.blocks.length
    · rw [if_pos h2] at h; cases h
    · rw [if_neg h2] at h
      exact ⟨h1, by omega, by omega, h⟩
  · rw [if_pos h1] at h
    exact absurd h h1
theorem ar0_at (n j : Nat) : (arAt (ar0 n) j).owned = false ∧ (0 ≤ (arAt (ar0 n) j).depth ∧ (arAt (ar0 n) j).depth ≤ 64) ∧ (0 < n → (arAt (ar0 n) 0).depth = 1) := by
  have key : ∀ j, (arAt (ar0 n) j).owned = false ∧ (0 ≤ (arAt (ar0 n) j).depth ∧ (arAt (ar0 n) j).depth ≤ 64) := fun j => by
    unfold ar0
    by_cases h0 : n = 0
    · subst h0
      exact ⟨rfl, by show (0 : Int) ≤ 0 ∧ (0 : Int) ≤ 64; decide⟩
    · rw [arAt_set (by simp; omega)]
      by_cases hj : j = 0
      · rw [if_pos hj]; exact ⟨rfl, by decide⟩
      · rw [if_neg hj]
        unfold arAt
        rw [List.getD_eq_getElem?_getD, List.getElem?_replicate]
        split
        · exact ⟨rfl, by decide⟩
        · exact ⟨rfl, by decide⟩
  refine ⟨(key j).1, (key j).2, fun hn => ?_⟩
  unfold ar0
  rw [arAt_set (by simp; omega), if_pos rfl]

theorem trees_law {n : Nat} {l : List AV} (h : Shp ap n 27 l) (hb : bulks l ≤ 1048576) : CallR ap 3 [.agg l] [] = some (.ret (.bool true), []) := by
  obtain ⟨p, tx, cd, sx, bl, rfl, hR⟩ := prog_shape h hb
  rw [stencillaw22_VerifyTrees.call]
  suffices hb : ∃ S', stencillaw22_VerifyTrees.b (.agg [tx, cd, sx, bl]) [] = some ⟨.ret (.bool true), none, S'⟩ by
    obtain ⟨S', k1⟩ := hb
    exact ret_keep k1 rfl rfl ⟨by simp, fun i hi => by simp at hi⟩
  have hec : AV.cells (.agg [tx, cd, sx, bl]) = [tx, cd, sx, bl] := rfl
  have hall : ([tx, cd, sx, bl]).all AV.isCell = true := by
    simp only [List.all_cons, List.all_nil, hR.htx.2.1, hR.hcd.2.1, hR.hcell, hR.hbl.2.1, Bool.and_true]
  obtain ⟨S, hS⟩ : ∃ S, S = ([] : Sto) ++ [Ob.cells 0 [tx, cd, sx, bl] 0] := ⟨_, rfl⟩
  have hp0 : S[0]? = some (.cells 0 [tx, cd, sx, bl] 0) := by rw [hS]; rfl
  have hSl : S.length = 1 := by rw [hS]; rfl
  have r2 : ld false 1 S (.mp 0 0 2) = some sx := m_get hp0 rfl
  have r3 : ld false 1 S (.mp 0 0 3) = some bl := m_get hp0 rfl
  have r4 : ld true 4 S (.mp 0 0 0) = some (.agg [tx, cd, sx, bl]) := m_all hp0 rfl
  obtain ⟨sh, hsh⟩ := shallow_spec hR.hsx.fov hR.hsm.s S
  have via1 : ∀ {a b : Option Res} {X : Sto → Option Res}, a = b → (∃ S', b = X S') → ∃ S', a = X S' := fun h k => by rw [h]; exact k
  rw [stencillaw22_VerifyTrees.b_eq, hec]
  refine via1 (it hall) ?_
  rw [← hS]
  refine via1 (cr (awake_spec S)) ?_
  refine via1 (br (aB _)) ?_
  refine via1 (bf rfl) ?_
  refine via1 (br r2) ?_
  refine via1 (cr hsh) ?_
  refine via1 (br (aB _)) ?_
  cases sh with
  | false => exact ⟨S, bt rfl⟩
  | true =>
    refine via1 (bf rfl) ?_
    refine via1 (br r4) ?_
    refine via1 (cr (hR.verify S)) ?_
    refine via1 (br (x0 _ _)) ?_
    refine via1 (br (x1 _ _ _)) ?_
    refine via1 (br (x2 _ _ _ _)) ?_
    refine via1 (cr (num_spec _ S)) ?_
    refine via1 (br (aI _)) ?_
    by_cases he : (verA p).2.2 = 0
    · refine via1 (bf (by rw [he]; rfl)) ?_
      obtain ⟨v1, v2, v3, v4⟩ := ver_ok he
      refine via1 (br r3) ?_
      refine via1 (br hR.hbl.1) ?_
      have hmk : mkS 1 8 [AV.int .i64 0] (.int .i64 ((p.blocks.length : Nat) : Int)) (.int .i64 ((p.blocks.length : Nat) : Int)) S = some (.ms S.length 0 0 p.blocks.length 1, S ++ [.cells 0 (hcellsI (List.replicate p.blocks.length 0)) 0]) := by
        simp only [mkS]
        rw [if_pos (by omega), reps_int]
        simp
      refine via1 (br hmk) ?_
      obtain ⟨S1, hS1⟩ : ∃ S1, S1 = S ++ [Ob.cells 0 (hcellsI (List.replicate p.blocks.length 0)) 0] := ⟨_, rfl⟩
      have hL : LS tx cd sx bl S.length (List.replicate p.blocks.length 0) S1 := ⟨by rw [hS1]; exact app_get hp0, by rw [hS1]; simp, by omega⟩
      have hal : (ar0 p.blocks.length).length = p.blocks.length := by simp [ar0]
      have hC : Cn (ar0 p.blocks.length) (List.replicate p.blocks.length 0) := ⟨by simp [ar0], fun j hj => by
        rw [if_neg (by rw [(ar0_at p.blocks.length j).1]; simp), List.getD_eq_getElem?_getD, List.getElem?_replicate]
        split <;> rfl⟩
      have hfin := blk_final v4 hal
      have hle := blk_le v4 hal
      obtain ⟨S2, cnt, c1, c2, c3⟩ := blocks_trees (W := S.length) hR (arF := blkAr p p.blocks 0 (ar0 p.blocks.length)) (fun j hj => by have := (hfin j hj).1; rwa [Nat.zero_add] at this) p.blocks.length 0 (ar0 p.blocks.length) (List.replicate p.blocks.length 0) S1 (by omega) hL (by rw [hS1]; simp) hC hal v4 rfl fun j => (ar0_at _ j).2.1
      have hFl : (blkAr p p.blocks 0 (ar0 p.blocks.length)).length = p.blocks.length := by rw [hle.1, hal]
      have hcl : cnt.length = p.blocks.length := by rw [c3.1, hFl]
      have h00 : arAt (blkAr p p.blocks 0 (ar0 p.blocks.length)) 0 = arAt (ar0 p.blocks.length) 0 := hle.2 0 (.inr (Int.le_refl _))
      refine ⟨S2, ?_⟩
      rw [← hS1]
      refine c1.trans ?_
      refine final_loop hR c2 hcl v2 ?_ (fun j hj hjl => ?_) ?_ (p.blocks.length - 1) 1 (by omega) (by omega)
      · rw [c3.2 0 (by omega), h00, if_neg (by rw [(ar0_at p.blocks.length 0).1]; simp)]
      · have := (hfin j (by omega)).2 (by omega)
        rw [Nat.zero_add] at this
        rw [c3.2 j (by omega), if_pos this]
      · have := (hfin 0 v2).1
        rw [Nat.zero_add, h00] at this
        rw [this]
        exact (ar0_at p.blocks.length 0).2.2 v2
    · exact ⟨S, bt (by simp only [Bool.not_eq_true', decide_eq_false_iff_not]; omega)⟩
end Go.Proofs.YtcgepgahgihojaaDoor
