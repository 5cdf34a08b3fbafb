/- Programs: an operation. -/
import Derived.Test.YtcgepgahgihojaaDoorVO
namespace Go.Proofs.YtcgepgahgihojaaDoor
open Go.St Go.Lib
set_option linter.unusedVariables false
set_option linter.unusedSimpArgs false

def codeB (p : PrA) (k : Bk) (c : Int × Int) : Bool := decide (ckC (p.codes.getD c.1.toNat []) ((p.texts.length : Nat) : Int) (wr (k.depth + c.2)) = 0)
noncomputable def opE (p : PrA) (i : Nat) (o : OpA) (k : Bk) (lets : List Int) (ar : List Ar) : Nat :=
  if formA p i o = false then 2203
  else if (codesA o).all (codeB p k) = false then 2201
  else if shapeA p k lets i o = false then 2204
  else if ownsA k p ar o = false then 2205
  else if deepA k o = true then 2208
  else if o.k = 9 ∧ 8 ≤ k.inn.loops then 2206
  else 0

theorem bool_cases (b : Bool) : b = false ∨ b = true := by cases b <;> simp
theorem form_facts {p : PrA} {i : Nat} {o : OpA} (h : formA p i o = true) : (∀ c ∈ codesA o, 0 ≤ c.1 ∧ c.1 < ((p.codes.length : Nat) : Int)) ∧ (o.k = 7 → 0 ≤ o.a ∧ o.a < ((p.statics.len : Nat) : Int)) ∧ (o.k = 4 ∨ o.k = 5 → 0 ≤ o.a ∧ o.a < ((p.texts.length : Nat) : Int)) ∧ i < 8192 := by
  unfold formA at h
  simp only [Bool.and_eq_true, Bool.not_eq_true', Bool.or_eq_false_iff, decide_eq_false_iff_not, List.all_eq_true] at h
  obtain ⟨⟨h1, _⟩, h2, h3⟩ := h
  have num : ∀ {x n : Int}, numB x n = true → 0 ≤ x ∧ x < n := fun {x n} hx => by simpa [numB] using hx
  refine ⟨fun c hc => num (h2 c hc), fun h7 => ?_, fun h45 => ?_, by omega⟩
  · unfold kindA at h3
    rw [if_neg (by omega), if_neg (by omega), if_neg (by omega), if_neg (by omega), if_neg (by omega), if_pos h7, Bool.and_eq_true] at h3
    exact num h3.2
  · have tx : ∀ {x : Int} {t : Bool}, textB p.texts x t = true → 0 ≤ x ∧ x < ((p.texts.length : Nat) : Int) := fun {x t} hx => by
      unfold textB at hx
      rw [Bool.and_eq_true] at hx
      exact num hx.1
    unfold kindA at h3
    rw [if_neg (by omega), if_neg (by omega)] at h3
    rcases h45 with h4 | h5
    · rw [if_pos h4, Bool.and_eq_true, Bool.and_eq_true] at h3
      exact tx h3.2.1
    · rw [if_neg (by omega), if_pos h5, Bool.and_eq_true] at h3
      exact tx h3.2
theorem own_facts {num : Int} {n : Nat} {ar : List Ar} {all : List (Int × Int)} : ∀ (l : List (Int × Int)) (i : Nat), ownGo num n ar all i l = true → ∀ x ∈ l, num < x.1 ∧ x.1 < (n : Int) ∧ owned ar x.1 = false := by
  intro l
  induction l with
  | nil => intro i _ x hx; simp at hx
  | cons y r ih =>
    intro i h x hx
    simp only [ownGo, Bool.and_eq_true] at h
    rcases List.mem_cons.1 hx with rfl | hx
    · have := h.1
      unfold ownB at this
      simp only [Bool.not_eq_true', Bool.or_eq_false_iff, decide_eq_false_iff_not] at this
      exact ⟨by omega, by omega, this.2.2.1⟩
    · exact ih (i + 1) h.2 x hx
theorem shape_facts {p : PrA} {k : Bk} {lets : List Int} {i : Nat} {o : OpA} (h : shapeA p k lets i o = true) (h6 : o.k = 6) : 1 < lets.length ∧ lastI lets = 0 := by
  unfold shapeA at h
  rw [if_neg (by omega), if_neg (by omega), if_neg (by omega), if_pos h6, Bool.and_eq_true] at h
  exact ⟨of_decide_eq_true h.1, of_decide_eq_true h.2⟩

section
variable {p : PrA} {P V A O B : Nat} {tx cd sx bl : AV} {S : Sto} {k : Bk} {g : Nat} {lets : List Int} {ar : List Ar}

theorem code_loop (hs : Small p) {o : OpA} {lv : AV} (hl : IntV o.l lv) {cv : AV} (hc : InsV (codesA o) cv) (hcl : (codesA o).length ≤ 1050000) (hr : ∀ c ∈ codesA o, 0 ≤ c.1 ∧ c.1 < ((p.codes.length : Nat) : Int)) (w : Int) : ∀ (m i : Nat) (S : Sto), i + m = (codesA o).length → P + 1 ≤ S.length → Prg p P tx cd sx bl S → Now P V A O B k g lets ar S →
    (((codesA o).drop i).all (codeB p k) = true → ∃ S', verify_block_op.p110100 (.mp B 0 0) w (.ip (oc o lv)) cv (((codesA o).length : Nat) : Int) ((i : Nat) : Int) S = verify_block_op.p110100 (.mp B 0 0) w (.ip (oc o lv)) cv (((codesA o).length : Nat) : Int) (((codesA o).length : Nat) : Int) S' ∧ S.length ≤ S'.length ∧ ∀ (j : Nat) (o : Ob), S[j]? = some o → S'[j]? = some o) ∧
    (((codesA o).drop i).all (codeB p k) = false → ∃ S', verify_block_op.p110100 (.mp B 0 0) w (.ip (oc o lv)) cv (((codesA o).length : Nat) : Int) ((i : Nat) : Int) S = some ⟨.ret (.int .i64 2201), none, S'⟩ ∧ S.length ≤ S'.length ∧ ∀ (j : Nat) (o : Ob), S[j]? = some o → S'[j]? = some o) := by
  intro m
  induction m with
  | zero =>
    intro i S him hPl H hN
    have hi : i = (codesA o).length := by omega
    subst hi
    exact ⟨fun _ => ⟨S, rfl, Nat.le_refl _, fun _ _ h => h⟩, fun h => by rw [List.drop_length] at h; cases h⟩
  | succ m ih =>
    intro i S him hPl H hN
    have hi : i < (codesA o).length := by omega
    obtain ⟨x, hx, hd⟩ := drop_pair hi
    have hia := ins_at hc hx
    have w1 : IntKind.wrap .i64 (((i : Nat) : Int) + 1) = ((i + 1 : Nat) : Int) := w64 _ (by omega) (by omega)
    obtain ⟨q1, q2⟩ := hr x (List.mem_of_getElem? hx)
    obtain ⟨y, hy⟩ : ∃ y : Nat, x.1 = (y : Int) := ⟨x.1.toNat, by omega⟩
    have hyt : x.1.toNat = y := by omega
    obtain ⟨cs, hca, cw, rfl, hcw⟩ := H.hC.2.2.2 y (by omega)
    obtain ⟨S1, hS1⟩ : ∃ S1, S1 = S ++ [Ob.cells 0 [.int .i64 x.1, .int .i64 x.2] 0] := ⟨_, rfl⟩
    have H1 : Prg p P tx cd sx bl S1 := by rw [hS1]; exact H.mono (Keeps.app hPl)
    have hN1 : Now P V A O B k g lets ar S1 := by rw [hS1]; exact hN.mono ap_get
    have hl1 : S.length + 1 = S1.length := by rw [hS1]; simp
    have hk1 : ∀ (j : Nat) (o : Ob), S[j]? = some o → S1[j]? = some o := by rw [hS1]; exact ap_get
    have hp0 : ld false 1 S1 (.mp S.length 0 0) = some (.int .i64 x.1) := by rw [hS1]; exact pair_get0 _ _ _
    have hp1 : ld false 1 S1 (.mp S.length 0 1) = some (.int .i64 x.2) := by rw [hS1]; exact pair_get1 _ _ _
    have hck := codeCheck_spec hcw (by have := hs.cs y; omega) ((p.texts.length : Nat) : Int) (wr (k.depth + x.2)) S1
    have pre : verify_block_op.p110100 (.mp B 0 0) w (.ip (oc o lv)) cv (((codesA o).length : Nat) : Int) ((i : Nat) : Int) S = (bif !codeB p k x then some ⟨.ret (.int .i64 2201), none, S1⟩ else verify_block_op.p110100 (.mp B 0 0) w (.ip (oc o lv)) cv (((codesA o).length : Nat) : Int) ((i + 1 : Nat) : Int) S1) := by
      rw [verify_block_op.p110100_eq]
      refine (bt (dtrue (by omega))).trans ?_
      refine (br hia).trans ?_
      refine (br (l2 _ _ _)).trans ?_
      refine (br (pair_new _ _ _)).trans ?_
      rw [← hS1]
      refine (rdM hN1.hB (k := 0) rfl).trans ?_
      refine (rdM hN1.hV (k := 0) rfl).trans ?_
      refine (rdM H1.hP (k := 1) rfl).trans ?_
      refine (br (pair_at0 _)).trans ?_
      refine (br hp0).trans ?_
      refine (br (show ia 1 cd (.int .i64 x.1) = some (.ip [cw]) by rw [hy]; exact hca)).trans ?_
      refine (br (l1 _ _)).trans ?_
      refine (rdM hN1.hB (k := 0) rfl).trans ?_
      refine (rdM hN1.hV (k := 0) rfl).trans ?_
      refine (rdM H1.hP (k := 0) rfl).trans ?_
      refine (br H1.hT.1).trans ?_
      refine (rdM hN1.hB (k := 8) rfl).trans ?_
      refine (br (pair_at1 _)).trans ?_
      refine (br hp1).trans ?_
      refine (br (aI _)).trans ?_
      refine (br (aI _)).trans ?_
      refine (cr hck).trans ?_
      refine (it rfl).trans ?_
      refine (br (aI _)).trans ?_
      rw [w1]
      unfold codeB
      rw [hyt, show decide ((((ckC (p.codes.getD y []) ((p.texts.length : Nat) : Int) (wr (k.depth + x.2)) : Nat)) : Int) = 0) = decide (ckC (p.codes.getD y []) ((p.texts.length : Nat) : Int) (wr (k.depth + x.2)) = 0) from decide_eq_decide.2 (by omega)]
    obtain ⟨i1, i2⟩ := ih (i + 1) S1 (by omega) (by omega) H1 hN1
    rw [hd, List.all_cons, pre]
    cases hb : codeB p k x with
    | false =>
      exact ⟨fun h => (by rw [Bool.false_and] at h; cases h), fun _ => ⟨S1, bt rfl, by omega, hk1⟩⟩
    | true =>
      rw [Bool.true_and]
      refine ⟨fun h => ?_, fun h => ?_⟩
      · obtain ⟨S', e1, e2, e3⟩ := i1 h
        exact ⟨S', (bf rfl).trans e1, by omega, fun j o h => e3 j o (hk1 j o h)⟩
      · obtain ⟨S', e1, e2, e3⟩ := i2 h
        exact ⟨S', (bf rfl).trans e1, by omega, fun j o h => e3 j o (hk1 j o h)⟩

theorem keeps_of {n : Nat} {S S' : Sto} (hn : n ≤ S.length) (hl : S.length ≤ S'.length) (h : ∀ (j : Nat) (o : Ob), S[j]? = some o → S'[j]? = some o) : Keeps n S S' := ⟨hl, fun i hi => by
  obtain ⟨o, ho⟩ : ∃ o, S[i]? = some o := ⟨_, List.getElem?_eq_getElem (by omega)⟩
  rw [ho, h i o ho]⟩

theorem op_spec (H : Prg p P tx cd sx bl S) (hs : Small p) (hN : Now P V A O B k g lets ar S) (hl0 : 0 < lets.length) (hl1 : lets.length ≤ 1050000) (har : ar.length = p.blocks.length) (hnum : 0 ≤ k.num) (hm : ∀ row n m, sx = .is row n (.cut m) → n ≤ m) {o : OpA} {lv : AV} (hl : IntV o.l lv) (hol : o.l.length ≤ 1050000) (i : Nat) :
    ∃ S' g', CallR ap 22 [.mp B 0 0, .int .i64 ((i : Nat) : Int), .ip (oc o lv)] S = some (.ret (.int .i64 ((opE p i o k lets ar : Nat) : Int)), S') ∧ Keeps (V + 1) S S' ∧ (opE p i o k lets ar = 0 → Now P V A O B (doneK p i o k lets).1 g' (doneK p i o k lets).2 (arGo k lets o ar (belongsA o)) S' ∧ formA p i o = true ∧ shapeA p k lets i o = true ∧ ownsA k p ar o = true) := by
  have hBl := (List.getElem?_eq_some_iff.1 hN.hB).1
  have h1 := hN.n1; have h2 := hN.n2; have h3 := hN.n3; have h4 := hN.n4
  suffices hb : ∃ S' g', verify_block_op.b (.mp B 0 0) ((i : Nat) : Int) (.ip (oc o lv)) S = some ⟨.ret (.int .i64 ((opE p i o k lets ar : Nat) : Int)), none, S'⟩ ∧ Keeps (V + 1) S S' ∧ (opE p i o k lets ar = 0 → Now P V A O B (doneK p i o k lets).1 g' (doneK p i o k lets).2 (arGo k lets o ar (belongsA o)) S' ∧ formA p i o = true ∧ shapeA p k lets i o = true ∧ ownsA k p ar o = true) by
    obtain ⟨S', g', b1, b2⟩ := hb
    refine ⟨S', g', ?_, b2⟩
    rw [verify_block_op.call, b1]
    rfl
  have stop : ∀ (e : Nat) (T : Sto), e ≠ 0 → opE p i o k lets ar = e → verify_block_op.b (.mp B 0 0) ((i : Nat) : Int) (.ip (oc o lv)) S = some ⟨.ret (.int .i64 ((e : Nat) : Int)), none, T⟩ → Keeps (V + 1) S T → ∃ S' g', verify_block_op.b (.mp B 0 0) ((i : Nat) : Int) (.ip (oc o lv)) S = some ⟨.ret (.int .i64 ((opE p i o k lets ar : Nat) : Int)), none, S'⟩ ∧ Keeps (V + 1) S S' ∧ (opE p i o k lets ar = 0 → Now P V A O B (doneK p i o k lets).1 g' (doneK p i o k lets).2 (arGo k lets o ar (belongsA o)) S' ∧ formA p i o = true ∧ shapeA p k lets i o = true ∧ ownsA k p ar o = true) := fun e T he hE hb hk => ⟨T, g, by rw [hE]; exact hb, hk, fun h0 => absurd (hE.symm.trans h0) he⟩
  have hf := form_spec H hs hN hl hol i
  rcases bool_cases (formA p i o) with hform | hform
  ·
    rw [hform] at hf
    refine stop 2203 S (by omega) (by unfold opE; rw [if_pos hform]) ?_ (Keeps.refl _ _)
    rw [verify_block_op.b_eq]
    exact (cr hf).trans ((br (aB _)).trans (bt rfl))
  ·
    rw [hform] at hf
    obtain ⟨f1, f2, f3, f4⟩ := form_facts hform
    obtain ⟨cv, hc, hcv⟩ := codes_spec hl hol S
    obtain ⟨l1', l2'⟩ := code_loop hs hl hcv (codesA_len hol) f1 ((i : Nat) : Int) (codesA o).length 0 S (by omega) (by omega) H hN
    rw [List.drop_zero] at l1' l2'
    have start : verify_block_op.b (.mp B 0 0) ((i : Nat) : Int) (.ip (oc o lv)) S = verify_block_op.p110100 (.mp B 0 0) ((i : Nat) : Int) (.ip (oc o lv)) cv (((codesA o).length : Nat) : Int) ((0 : Nat) : Int) S := by
      rw [verify_block_op.b_eq]
      refine (cr hf).trans ?_
      refine (br (aB _)).trans ?_
      refine (bf rfl).trans ?_
      refine (cr hc).trans ?_
      exact br hcv.len
    have hform' : ¬ formA p i o = false := by rw [hform]; simp
    rcases bool_cases ((codesA o).all (codeB p k)) with hcs | hcs
    ·
      obtain ⟨T, e1, e2, e3⟩ := l2' hcs
      exact stop 2201 T (by omega) (by unfold opE; rw [if_neg hform', if_pos hcs]) (start.trans e1) (keeps_of (by omega) e2 e3)
    ·
      obtain ⟨T, e1, e2, e3⟩ := l1' hcs
      have hcs' : ¬ (codesA o).all (codeB p k) = false := by rw [hcs]; simp
      have HT : Prg p P tx cd sx bl T := H.mono (keeps_of (by omega) e2 e3)
      have hNT : Now P V A O B k g lets ar T := hN.mono e3
      have hkT : Keeps (V + 1) S T := keeps_of (by omega) e2 e3
      have start2 := start.trans e1
      rw [verify_block_op.p110100_eq] at start2
      have bfn : decide ((((codesA o).length : Nat) : Int) < (((codesA o).length : Nat) : Int)) = false := dfalse (by omega)
      have hsh := shape_spec HT hs hNT hl0 hl1 hm hl i f2 f3
      rcases bool_cases (shapeA p k lets i o) with hshape | hshape
      ·
        rw [hshape] at hsh
        exact stop 2204 T (by omega) (by unfold opE; rw [if_neg hform', if_neg hcs', if_pos hshape]) (start2.trans ((bf bfn).trans ((cr hsh).trans ((br (aB _)).trans (bt rfl))))) hkT
      ·
        rw [hshape] at hsh
        have hshape' : ¬ shapeA p k lets i o = false := by rw [hshape]; simp
        have how := owns_spec HT hNT har hnum hl
        rcases bool_cases (ownsA k p ar o) with howns | howns
        ·
          rw [howns] at how
          exact stop 2205 T (by omega) (by unfold opE; rw [if_neg hform', if_neg hcs', if_neg hshape', if_pos howns]) (start2.trans ((bf bfn).trans ((cr hsh).trans ((br (aB _)).trans ((bf rfl).trans ((cr how).trans ((br (aB _)).trans (bt rfl)))))))) hkT
        ·
          rw [howns] at how
          have howns' : ¬ ownsA k p ar o = false := by rw [howns]; simp
          have hde := deep_spec hNT hl
          rcases (bool_cases (deepA k o)).symm with hdeep | hdeep
          ·
            rw [hdeep] at hde
            exact stop 2208 T (by omega) (by unfold opE; rw [if_neg hform', if_neg hcs', if_neg hshape', if_neg howns', if_pos hdeep]) (start2.trans ((bf bfn).trans ((cr hsh).trans ((br (aB _)).trans ((bf rfl).trans ((cr how).trans ((br (aB _)).trans ((bf rfl).trans ((cr hde).trans ((br (aB _)).trans (bt rfl))))))))))) hkT
          ·
            rw [hdeep] at hde
            have hdeep' : ¬ deepA k o = true := by rw [hdeep]; simp
            have start3 := start2.trans ((bf bfn).trans ((cr hsh).trans ((br (aB _)).trans ((bf rfl).trans ((cr how).trans ((br (aB _)).trans ((bf rfl).trans ((cr hde).trans ((br (aB _)).trans ((bf rfl).trans ((rdO (k := 0) rfl).trans (br (aI _)))))))))))))
            have hin : ∀ x ∈ belongsA o, 0 ≤ x.1 ∧ x.1 < ((ar.length : Nat) : Int) := fun x hx => by
              have := own_facts _ _ howns x hx
              omega
            obtain ⟨S', g', d1, d2, d3⟩ := done_spec HT hNT hl0 hl1 hl i f3 (fun h6 => (shape_facts hshape h6).1) hin
            have fin : verify_block_op.p111001111111 (.mp B 0 0) ((i : Nat) : Int) (.ip (oc o lv)) false T = some ⟨.ret (.int .i64 0), none, S'⟩ := by
              rw [verify_block_op.p111001111111_eq]
              exact (bf rfl).trans (cr d1)
            have hloop : verify_block_op.b (.mp B 0 0) ((i : Nat) : Int) (.ip (oc o lv)) S = verify_block_op.p111001111111 (.mp B 0 0) ((i : Nat) : Int) (.ip (oc o lv)) (decide (o.k = 9 ∧ 8 ≤ k.inn.loops)) T := by
              refine start3.trans ?_
              by_cases h9 : o.k = 9
              · refine (bt (dtrue h9)).trans ?_
                refine (rdI hNT.hB (j := 3) (k := 4) rfl).trans ?_
                refine (br (aI _)).trans ?_
                rw [show decide (8 ≤ k.inn.loops) = decide (o.k = 9 ∧ 8 ≤ k.inn.loops) by simp [h9]]
              · refine (bf (dfalse h9)).trans ?_
                rw [dfalse (show ¬ (o.k = 9 ∧ 8 ≤ k.inn.loops) from fun h => h9 h.1)]
            by_cases h9 : o.k = 9 ∧ 8 ≤ k.inn.loops
            · rw [dtrue h9, verify_block_op.p111001111111_eq] at hloop
              exact stop 2206 T (by omega) (by unfold opE; rw [if_neg hform', if_neg hcs', if_neg hshape', if_neg howns', if_neg hdeep', if_pos h9]) (hloop.trans (bt rfl)) hkT
            · rw [dfalse h9, fin] at hloop
              have hE : opE p i o k lets ar = 0 := by unfold opE; rw [if_neg hform', if_neg hcs', if_neg hshape', if_neg howns', if_neg hdeep', if_neg h9]
              exact ⟨S', g', by rw [hE]; exact hloop, hkT.trans d3, fun _ => ⟨d2, hform, hshape, howns⟩⟩
end

/-! ## Programs: a block. -/
/-- All operations of a block: a place and a fault, if there is one; what there is behind. -/
noncomputable def opsGo (p : PrA) : List OpA → Nat → Bk → List Int → List Ar → Option (Nat × Nat) × Bk × List Int × List Ar
  | [], _, k, l, ar => (none, k, l, ar)
  | o :: r, i, k, l, ar => if opE p i o k l ar = 0 then opsGo p r (i + 1) (doneK p i o k l).1 (doneK p i o k l).2 (arGo k l o ar (belongsA o)) else (some (i, opE p i o k l ar), k, l, ar)

theorem opsGo_err {p : PrA} : ∀ {l : List OpA} {i : Nat} {k : Bk} {lets : List Int} {ar : List Ar} {e : Nat × Nat}, (opsGo p l i k lets ar).1 = some e → e.2 ≠ 0 := by
  intro l
  induction l with
  | nil => intro i k lets ar e h; simp [opsGo] at h
  | cons o r ih =>
    intro i k lets ar e h
    simp only [opsGo] at h
    by_cases hE : opE p i o k lets ar = 0
    · rw [if_pos hE] at h; exact ih h
    · rw [if_neg hE] at h; cases h; exact hE
theorem doneK_len {p : PrA} {i : Nat} {o : OpA} {k : Bk} {l : List Int} (h0 : 0 < l.length) (h6 : o.k = 6 → 1 < l.length) : 0 < (doneK p i o k l).2.length ∧ (doneK p i o k l).2.length ≤ l.length + 1 ∧ (doneK p i o k l).1.num = k.num ∧ (doneK p i o k l).1.inn = k.inn ∧ (doneK p i o k l).1.bp = k.bp := by
  unfold doneK
  by_cases h3 : o.k = 3
  · rw [if_pos h3]; exact ⟨by simp, by simp, rfl, rfl, rfl⟩
  rw [if_neg h3]
  by_cases h4 : o.k = 4 ∨ o.k = 5
  · rw [if_pos h4]; exact ⟨h0, by simp, rfl, rfl, rfl⟩
  rw [if_neg h4]
  by_cases h6' : o.k = 6
  · rw [if_pos h6']
    have := h6 h6'
    exact ⟨by simp; omega, by simp; omega, rfl, rfl, rfl⟩
  rw [if_neg h6']
  by_cases h11 : o.k = 11
  · rw [if_pos h11]; exact ⟨by simpa [setLast] using h0, by simp [setLast], rfl, rfl, rfl⟩
  rw [if_neg h11]
  by_cases h12 : o.k = 12
  · rw [if_pos h12]; exact ⟨by simpa [setLast] using h0, by simp [setLast], rfl, rfl, rfl⟩
  rw [if_neg h12]
  exact ⟨h0, by simp, rfl, rfl, rfl⟩

def badU (n : Nat) (pv : Option Int) (x : Int) : Bool := !numB x (n : Int) || (match pv with | none => false | some y => decide (x ≤ y))
def updGo (n : Nat) : Option Int → List Int → Nat → Nat × Nat
  | _, [], _ => (0, 0)
  | pv, x :: r, i => if badU n pv x = true then (i, 2207) else updGo n (some x) r (i + 1)
def singleA (b : BlA) (first : Int) : Bool := if b.ops.length = 1 then decide ((b.ops.getD 0 default).k = 7) else if b.ops.length = 0 then false else if (b.ops.getD 0 default).k ≠ 3 then false else decide (first = wr (((b.ops.length : Nat) : Int) - 1))
def endA (b : BlA) (k : Bk) (l : List Int) : Nat × Nat :=
  if 1 < l.length ∨ 0 < lastI l then (b.ops.length, 2204)
  else if k.inn.loop = true ∧ singleA b k.first = false then (0, 2206)
  else updGo b.ops.length none b.upd 0
noncomputable def lookA (p : PrA) (b : BlA) (k : Bk) (l : List Int) (ar : List Ar) : (Nat × Nat) × List Ar :=
  if 0 < k.num ∧ k.inn.owned = false then ((0, 2205), ar)
  else if b.depth ≠ k.inn.depth then ((0, 2208), ar)
  else match (opsGo p b.ops 0 k l ar).1 with
    | some e => (e, (opsGo p b.ops 0 k l ar).2.2.2)
    | none => (endA b (opsGo p b.ops 0 k l ar).2.1 (opsGo p b.ops 0 k l ar).2.2.1, (opsGo p b.ops 0 k l ar).2.2.2)

def tup2 (e : Nat × Nat) : AV := .tup [.int .i64 ((e.1 : Nat) : Int), .int .i64 ((e.2 : Nat) : Int)]

section
variable {p : PrA} {P V A O B : Nat} {tx cd sx bl : AV} {S : Sto} {k : Bk} {g : Nat} {lets : List Int} {ar : List Ar}

theorem upd_loop (hN : Now P V A O B k g lets ar S) {b : BlA} {cs : List AV} (hp : Ptr P S k.bp cs) {ov uv : AV} (hcs : cs = [.int .i64 b.depth, ov, uv]) (ho : OpsV b.ops ov) (hu : IntV b.upd uv) (hul : b.upd.length ≤ 1050000) : ∀ (m i : Nat), i + m = b.upd.length →
    verify_block_look.p11110100 (.mp B 0 0) uv ((b.upd.length : Nat) : Int) ((i : Nat) : Int) S = some ⟨.ret (tup2 (updGo b.ops.length (if i = 0 then none else some (b.upd.getD (i - 1) 0)) (b.upd.drop i) i)), none, S⟩ := by
  intro m
  induction m with
  | zero =>
    intro i him
    have hi : i = b.upd.length := by omega
    subst hi
    rw [verify_block_look.p11110100_eq, List.drop_length]
    exact bf (dfalse (by omega))
  | succ m ih =>
    intro i him
    have hi : i < b.upd.length := by omega
    obtain ⟨cs2, hia, rfl⟩ := hu.2.2.2 i hi
    have w1 : IntKind.wrap .i64 (((i : Nat) : Int) + 1) = ((i + 1 : Nat) : Int) := w64 _ (by omega) (by omega)
    have hd : b.upd.drop i = b.upd.getD i 0 :: b.upd.drop (i + 1) := by
      rw [List.drop_eq_getElem_cons hi, List.getD_eq_getElem?_getD, List.getElem?_eq_getElem hi]; rfl
    have e1 : cs[1]? = some ov := by rw [hcs]; rfl
    have e2 : cs[2]? = some uv := by rw [hcs]; rfl
    have out : ∀ q, q = badU b.ops.length (if i = 0 then none else some (b.upd.getD (i - 1) 0)) (b.upd.getD i 0) → verify_block_look.p11110100110011 (.mp B 0 0) ((i : Nat) : Int) uv ((b.upd.length : Nat) : Int) ((i : Nat) : Int) q S = some ⟨.ret (tup2 (updGo b.ops.length (if i = 0 then none else some (b.upd.getD (i - 1) 0)) (b.upd.drop i) i)), none, S⟩ := by
      intro q hq
      rw [verify_block_look.p11110100110011_eq, hd, w1]
      simp only [updGo]
      rw [← hq]
      cases q with
      | true => exact bt rfl
      | false =>
        refine (bf rfl).trans ?_
        rw [ih (i + 1) (by omega)]
        simp
    rw [verify_block_look.p11110100_eq]
    refine (bt (dtrue (by omega))).trans ?_
    refine (br hia).trans ?_
    refine (br (l1 _ _)).trans ?_
    refine (rdM hN.hB (k := 2) rfl).trans ?_
    refine (rdP hp e1).trans ?_
    refine (br ho.1).trans ?_
    refine (cr (number_spec _ _ S)).trans ?_
    refine (br (aB _)).trans ?_
    cases hn : numB (b.upd.getD i 0) ((b.ops.length : Nat) : Int) with
    | false =>
      refine (bt rfl).trans ?_
      exact out true (by unfold badU; rw [hn]; rfl)
    | true =>
      refine (bf rfl).trans ?_
      by_cases h0 : i = 0
      · refine (bf (dfalse (by omega))).trans ?_
        exact out false (by unfold badU; rw [hn, if_pos h0]; rfl)
      · refine (bt (dtrue (by omega))).trans ?_
        refine (rdM hN.hB (k := 2) rfl).trans ?_
        refine (rdP hp e2).trans ?_
        have w2 : IntKind.wrap .i64 (((i : Nat) : Int) - 1) = ((i - 1 : Nat) : Int) := w64 _ (by omega) (by omega)
        obtain ⟨cs3, hia3, rfl⟩ := hu.2.2.2 (i - 1) (by omega)
        rw [w2]
        refine (br hia3).trans ?_
        refine (br (l1 _ _)).trans ?_
        refine (br (aI _)).trans ?_
        refine (br (aI _)).trans ?_
        exact out _ (by unfold badU; rw [hn, if_neg h0]; rfl)

theorem single_spec (hN : Now P V A O B k g lets ar S) {b : BlA} {cs : List AV} (hp : Ptr P S k.bp cs) {ov uv : AV} (hcs : cs = [.int .i64 b.depth, ov, uv]) (ho : OpsV b.ops ov) : CallR ap 24 [.mp B 0 0] S = some (.ret (.bool (singleA b k.first)), S) := by
  have e1 : cs[1]? = some ov := by rw [hcs]; rfl
  rw [verify_block_single.call]
  refine ret_keep ?_ rfl rfl (Keeps.refl _ _)
  rw [verify_block_single.b_eq]
  refine (rdM hN.hB (k := 2) rfl).trans ?_
  refine (rdP hp e1).trans ?_
  refine (br ho.1).trans ?_
  unfold singleA
  have tail : ∀ q, verify_block_single.p1100111 (.mp B 0 0) ov q S = some ⟨.ret (.bool (if q = true then false else decide (k.first = wr (((b.ops.length : Nat) : Int) - 1)))), none, S⟩ := fun q => by
    rw [verify_block_single.p1100111_eq]
    cases q with
    | true => exact bt rfl
    | false =>
      refine (bf rfl).trans ?_
      refine (rdM hN.hB (k := 12) rfl).trans ?_
      refine (br ho.1).trans ?_
      exact br (aI _)
  by_cases h1 : b.ops.length = 1
  · rw [if_pos h1]
    obtain ⟨cs2, hia, lv, rfl, hlv⟩ := ho.2.2.2 0 (by omega)
    refine (bt (dtrue (by omega))).trans ?_
    refine (br hia).trans ?_
    refine (br (show fa 0 1 (.ip (oc (b.ops.getD 0 default) lv)) = some (.ip [.int .i64 (b.ops.getD 0 default).k]) from rfl)).trans ?_
    refine (br (l1 _ _)).trans ?_
    exact br (aI _)
  · rw [if_neg h1]
    refine (bf (dfalse (by omega))).trans ?_
    refine (br ho.1).trans ?_
    by_cases h0 : b.ops.length = 0
    · rw [if_pos h0]
      refine (bt (dtrue (by omega))).trans ?_
      rw [tail, if_pos rfl]
    · rw [if_neg h0]
      obtain ⟨cs2, hia, lv, rfl, hlv⟩ := ho.2.2.2 0 (by omega)
      refine (bf (dfalse (by omega))).trans ?_
      refine (br hia).trans ?_
      refine (br (show fa 0 1 (.ip (oc (b.ops.getD 0 default) lv)) = some (.ip [.int .i64 (b.ops.getD 0 default).k]) from rfl)).trans ?_
      refine (br (l1 _ _)).trans ?_
      refine (br (aI _)).trans ?_
      rw [tail]
      by_cases h3 : (b.ops.getD 0 default).k = 3
      · rw [dtrue h3, if_neg (show ¬ ((b.ops.getD 0 default).k ≠ 3) from fun h => h h3)]; rfl
      · rw [dfalse h3, if_pos (show (b.ops.getD 0 default).k ≠ 3 from h3)]; rfl

theorem end_spec (hN : Now P V A O B k g lets ar S) (hl0 : 0 < lets.length) (hl1 : lets.length ≤ 1050000) {b : BlA} {cs : List AV} (hp : Ptr P S k.bp cs) {ov uv : AV} (hcs : cs = [.int .i64 b.depth, ov, uv]) (ho : OpsV b.ops ov) (hu : IntV b.upd uv) (hul : b.upd.length ≤ 1050000) (n : Int) :
    verify_block_look.p110100 (.mp B 0 0) n n S = some ⟨.ret (tup2 (endA b k lets)), none, S⟩ := by
  have e1 : cs[1]? = some ov := by rw [hcs]; rfl
  have e2 : cs[2]? = some uv := by rw [hcs]; rfl
  rw [verify_block_look.p110100_eq]
  refine (bf (dfalse (by omega))).trans ?_
  refine (rdM hN.hB (k := 9) rfl).trans ?_
  refine (br (show lenL (.ms O g 0 lets.length 1) = some lets.length from rfl)).trans ?_
  have upd : ∀ q, q = decide (k.inn.loop = true ∧ singleA b k.first = false) → verify_block_look.p11100111 (.mp B 0 0) q S = some ⟨.ret (tup2 (if k.inn.loop = true ∧ singleA b k.first = false then (0, 2206) else updGo b.ops.length none b.upd 0)), none, S⟩ := by
    intro q hq
    rw [verify_block_look.p11100111_eq]
    by_cases h : k.inn.loop = true ∧ singleA b k.first = false
    · rw [dtrue h] at hq
      subst hq
      rw [if_pos h]
      exact bt rfl
    · rw [dfalse h] at hq
      subst hq
      rw [if_neg h]
      refine (bf rfl).trans ?_
      refine (rdM hN.hB (k := 2) rfl).trans ?_
      refine (rdP hp e2).trans ?_
      refine (br hu.1).trans ?_
      exact upd_loop hN hp hcs ho hu hul b.upd.length 0 (by omega)
  have shp : ∀ q, q = decide (1 < lets.length ∨ 0 < lastI lets) → verify_block_look.p111001 (.mp B 0 0) q S = some ⟨.ret (tup2 (endA b k lets)), none, S⟩ := by
    intro q hq
    rw [verify_block_look.p111001_eq]
    unfold endA
    by_cases h : 1 < lets.length ∨ 0 < lastI lets
    · rw [dtrue h] at hq
      subst hq
      rw [if_pos h]
      refine (bt rfl).trans ?_
      refine (rdM hN.hB (k := 2) rfl).trans ?_
      refine (rdP hp e1).trans ?_
      exact br ho.1
    · rw [dfalse h] at hq
      subst hq
      rw [if_neg h]
      refine (bf rfl).trans ?_
      refine (rdI hN.hB (j := 3) (k := 1) rfl).trans ?_
      refine (br (gB _)).trans ?_
      refine gs.trans ?_
      cases hlp : k.inn.loop with
      | false =>
        refine (bf rfl).trans ?_
        have := upd false (by simp [hlp])
        rw [hlp] at this
        exact this
      | true =>
        refine (bt rfl).trans ?_
        refine (cr (single_spec hN hp hcs ho)).trans ?_
        refine (br (aB _)).trans ?_
        have := upd (!singleA b k.first) (by rw [hlp]; cases singleA b k.first <;> simp)
        rw [hlp] at this
        exact this
  by_cases h1 : 1 < lets.length
  · refine (bt (dtrue (by omega))).trans ?_
    exact shp true (by simp [h1])
  · refine (bf (dfalse (by omega))).trans ?_
    refine (cr (lets_spec hN hl0 hl1)).trans ?_
    refine (br (show nilCk (.mp O g (lets.length - 1)) = some _ from rfl)).trans ?_
    refine (br (lets_get hN hl0)).trans ?_
    refine (br (aI _)).trans ?_
    exact shp _ (by simp [h1])

theorem ops_loop (hs : Small p) (hm : ∀ row n m, sx = .is row n (.cut m) → n ≤ m) {b : BlA} {bp : AV} {cs : List AV} {ov uv : AV} (hcs : cs = [.int .i64 b.depth, ov, uv]) (ho : OpsV b.ops ov) (hu : IntV b.upd uv) (hul : b.upd.length ≤ 1050000) (hol : b.ops.length ≤ 1049000) (hll : ∀ j, (b.ops.getD j default).l.length ≤ 1050000) : ∀ (m i : Nat) (k : Bk) (g : Nat) (lets : List Int) (ar : List Ar) (S : Sto), i + m = b.ops.length → Prg p P tx cd sx bl S → Now P V A O B k g lets ar S → k.bp = bp → Ptr P S bp cs → 0 < lets.length → lets.length ≤ i + 1 → ar.length = p.blocks.length → 0 ≤ k.num →
    ∃ S' g' k' lets', verify_block_look.p110100 (.mp B 0 0) ((b.ops.length : Nat) : Int) ((i : Nat) : Int) S = some ⟨.ret (tup2 (match (opsGo p (b.ops.drop i) i k lets ar).1 with | some e => e | none => endA b (opsGo p (b.ops.drop i) i k lets ar).2.1 (opsGo p (b.ops.drop i) i k lets ar).2.2.1)), none, S'⟩ ∧ Keeps (V + 1) S S' ∧ ((opsGo p (b.ops.drop i) i k lets ar).1 = none → Now P V A O B k' g' lets' (opsGo p (b.ops.drop i) i k lets ar).2.2.2 S') := by
  intro m
  induction m with
  | zero =>
    intro i k g lets ar S him H hN hbp hp hl0 hl1 har hnum
    have hi : i = b.ops.length := by omega
    subst hi
    subst hbp
    rw [List.drop_length]
    exact ⟨S, g, k, lets, end_spec hN hl0 (by omega) hp hcs ho hu hul _, Keeps.refl _ _, fun _ => hN⟩
  | succ m ih =>
    intro i k g lets ar S him H hN hbp hp hl0 hl1 har hnum
    have hi : i < b.ops.length := by omega
    have e1 : cs[1]? = some ov := by rw [hcs]; rfl
    have w1 : IntKind.wrap .i64 (((i : Nat) : Int) + 1) = ((i + 1 : Nat) : Int) := w64 _ (by omega) (by omega)
    have hd : b.ops.drop i = b.ops.getD i default :: b.ops.drop (i + 1) := by
      rw [List.drop_eq_getElem_cons hi, List.getD_eq_getElem?_getD, List.getElem?_eq_getElem hi]; rfl
    obtain ⟨cs2, hia, lv, rfl, hlv⟩ := ho.2.2.2 i hi
    have h1 := hN.n1
    subst hbp
    obtain ⟨S1, g1, c1, c2, c3⟩ := op_spec H hs hN hl0 (by omega) har hnum hm hlv (hll i) i
    have pre : verify_block_look.p110100 (.mp B 0 0) ((b.ops.length : Nat) : Int) ((i : Nat) : Int) S = (bif !decide (((opE p i (b.ops.getD i default) k lets ar : Nat) : Int) = 0) then some ⟨.ret (.tup [.int .i64 ((i : Nat) : Int), .int .i64 ((opE p i (b.ops.getD i default) k lets ar : Nat) : Int)]), none, S1⟩ else verify_block_look.p110100 (.mp B 0 0) ((b.ops.length : Nat) : Int) ((i + 1 : Nat) : Int) S1) := by
      rw [verify_block_look.p110100_eq]
      refine (bt (dtrue (by omega))).trans ?_
      refine (rdM hN.hB (k := 2) rfl).trans ?_
      refine (rdP hp e1).trans ?_
      refine (br hia).trans ?_
      refine (cr c1).trans ?_
      refine (br (aI _)).trans ?_
      rw [w1]
    rw [hd, pre]
    simp only [opsGo]
    by_cases hE : opE p i (b.ops.getD i default) k lets ar = 0
    · obtain ⟨d1, d2, d3, d4⟩ := c3 hE
      obtain ⟨l1', l2', l3', l4', l5'⟩ := doneK_len (p := p) (i := i) (k := k) hl0 (fun h6 => (shape_facts d3 h6).1)
      have hp1 : Ptr P S1 k.bp cs := hp.mono (keeps_weak c2 (by omega))
      obtain ⟨S', g', k', lets', f1, f2, f3⟩ := ih (i + 1) _ g1 _ _ S1 (by omega) (H.mono (keeps_weak c2 (by omega))) d1 l5' hp1 l1' (by omega) (by rw [arGo_len]; exact har) (by rw [l3']; exact hnum)
      refine ⟨S', g', k', lets', ?_, c2.trans f2, ?_⟩
      · refine (bf (by rw [hE]; rfl)).trans ?_
        rw [if_pos hE]
        exact f1
      · rw [if_pos hE]
        exact f3
    · refine ⟨S1, g, k, lets, ?_, c2, ?_⟩
      · refine (bt (by simp only [Bool.not_eq_true', decide_eq_false_iff_not]; omega)).trans ?_
        rw [if_neg hE]
        rfl
      · rw [if_neg hE]
        intro h
        cases h

theorem look_specB (H : Prg p P tx cd sx bl S) (hs : Small p) (hN : Now P V A O B k g lets ar S) (hm : ∀ row n m, sx = .is row n (.cut m) → n ≤ m) {b : BlA} {cs : List AV} (hp : Ptr P S k.bp cs) (hb : BlC b cs) (hul : b.upd.length ≤ 1050000) (hol : b.ops.length ≤ 1049000) (hll : ∀ j, (b.ops.getD j default).l.length ≤ 1050000) (hl : lets.length = 1) (har : ar.length = p.blocks.length) (hnum : 0 ≤ k.num) :
    ∃ S' g' k' lets', CallR ap 14 [.mp B 0 0] S = some (.ret (tup2 (lookA p b k lets ar).1), S') ∧ Keeps (V + 1) S S' ∧ ((lookA p b k lets ar).1.2 = 0 → Now P V A O B k' g' lets' (lookA p b k lets ar).2 S') := by
  obtain ⟨ov, uv, hcs, ho, hu⟩ := hb
  have e0 : cs[0]? = some (.int .i64 b.depth) := by rw [hcs]; rfl
  have e1 : cs[1]? = some ov := by rw [hcs]; rfl
  suffices hb : ∃ S' g' k' lets', verify_block_look.b (.mp B 0 0) S = some ⟨.ret (tup2 (lookA p b k lets ar).1), none, S'⟩ ∧ Keeps (V + 1) S S' ∧ ((lookA p b k lets ar).1.2 = 0 → Now P V A O B k' g' lets' (lookA p b k lets ar).2 S') by
    obtain ⟨S', g', k', lets', b1, b2⟩ := hb
    refine ⟨S', g', k', lets', ?_, b2⟩
    rw [verify_block_look.call, b1]
    rfl
  have start : verify_block_look.b (.mp B 0 0) S = verify_block_look.p1001 (.mp B 0 0) (decide (0 < k.num ∧ k.inn.owned = false)) S := by
    rw [verify_block_look.b_eq]
    refine (rdM hN.hB (k := 1) rfl).trans ?_
    refine (br (aI _)).trans ?_
    by_cases h0 : 0 < k.num
    · refine (bt (dtrue h0)).trans ?_
      refine (rdI hN.hB (j := 3) (k := 0) rfl).trans ?_
      refine (br (aB _)).trans ?_
      congr 1
      cases k.inn.owned <;> simp [h0]
    · refine (bf (dfalse h0)).trans ?_
      rw [dfalse (show ¬ (0 < k.num ∧ k.inn.owned = false) from fun h => h0 h.1)]
  rw [start, verify_block_look.p1001_eq]
  unfold lookA
  by_cases h1 : 0 < k.num ∧ k.inn.owned = false
  · simp only [if_pos h1]
    exact ⟨S, g, k, lets, bt (dtrue h1), Keeps.refl _ _, fun h => by cases h⟩
  simp only [if_neg h1]
  by_cases h2 : b.depth = k.inn.depth
  · simp only [if_neg (show ¬ (b.depth ≠ k.inn.depth) from fun h => h h2)]
    obtain ⟨S', g', k', lets', f1, f2, f3⟩ := ops_loop hs hm hcs ho hu hul hol hll b.ops.length 0 k g lets ar S (by omega) H hN rfl hp (by omega) (by omega) har hnum
    rw [List.drop_zero] at f1 f3
    refine ⟨S', g', k', lets', ?_, f2, ?_⟩
    · refine (bf (dfalse h1)).trans ?_
      refine (rdM hN.hB (k := 2) rfl).trans ?_
      refine (rdP hp e0).trans ?_
      refine (rdI hN.hB (j := 3) (k := 2) rfl).trans ?_
      refine (br (aI _)).trans ?_
      refine (br (aI _)).trans ?_
      refine (bf (by rw [dtrue h2]; rfl)).trans ?_
      refine (rdM hN.hB (k := 2) rfl).trans ?_
      refine (rdP hp e1).trans ?_
      refine (br ho.1).trans ?_
      refine f1.trans ?_
      split <;> rfl
    · intro h
      cases hg : (opsGo p b.ops 0 k lets ar).1 with
      | some e =>
        exfalso
        rw [hg] at h
        exact absurd h (opsGo_err hg)
      | none =>
        exact f3 hg
  · simp only [if_pos (show b.depth ≠ k.inn.depth from h2)]
    refine ⟨S, g, k, lets, ?_, Keeps.refl _ _, fun h => by cases h⟩
    refine (bf (dfalse h1)).trans ?_
    refine (rdM hN.hB (k := 2) rfl).trans ?_
    refine (rdP hp e0).trans ?_
    refine (rdI hN.hB (j := 3) (k := 2) rfl).trans ?_
    refine (br (aI _)).trans ?_
    refine (br (aI _)).trans ?_
    exact bt (by rw [dfalse h2]; rfl)
end
end Go.Proofs.YtcgepgahgihojaaDoor
