/- Cores: the small functions, on a chain of CWiths over a text. -/
import Derived.Test.YtnjpbbiolngfkaaDoorPB
namespace Go.Proofs.YtnjpbbiolngfkaaDoor
open Go.St Go.Lib
set_option linter.unusedVariables false
set_option linter.unusedSimpArgs false

def eN : List AV := [.int .i64 1, .int .i64 0, .str ⟨#[]⟩, .nils]
def eV (pl : Int) : List AV := [.int .i64 6, .int .i64 pl, .str ⟨#[]⟩, .nils]
def pt (pl : Int) : List AV := [.str ⟨#[]⟩, .bool true, .int .i64 6, .int .i64 pl, .str ⟨#[]⟩, .nils]
def tC (pl : Int) : List AV := [.int .i64 1, .str ⟨#[]⟩, .nils, .is (pt pl) 1 .full, .nils, .nils, .nils]
def wC (k : AV) : List AV := [.int .i64 5, .str ⟨#[]⟩, .nils, .nils, .is eN 1 .full, k, .nils]
def row (cs : List AV) : AV := .is cs 1 .full
def chain (pl : Int) : Nat → AV
  | 0 => row (tC pl)
  | n + 1 => row (wC (chain pl n))

/-! ### placed -/
theorem placedN (s : Int) (st : Sto) : CallR ap 33 [.ip eN, .int .i64 s] st = some (.ret (.bool true), st) := by
  rw [core_placed.call]
  refine ret_keep (st' := st) ?_ rfl rfl (Keeps.refl _ _)
  rw [core_placed.b_eq]
  show core_placed.p101 (.ip eN) s false st = _
  rw [core_placed.p101_eq]
  show core_placed.p110100 (.ip eN) s 0 0 st = _
  rw [core_placed.p110100_eq]
  rfl
theorem placedV (pl s : Int) (st : Sto) : CallR ap 33 [.ip (eV pl), .int .i64 s] st = some (.ret (.bool (decide (0 ≤ pl ∧ pl < s))), st) := by
  rw [core_placed.call]
  refine ret_keep (st' := st) ?_ rfl rfl (Keeps.refl _ _)
  have out : ∀ b, b = decide (¬ (0 ≤ pl ∧ pl < s)) → core_placed.p101 (.ip (eV pl)) s b st = some ⟨.ret (.bool (decide (0 ≤ pl ∧ pl < s))), none, st⟩ := by
    intro b hb
    rw [core_placed.p101_eq]
    by_cases h : 0 ≤ pl ∧ pl < s
    · rw [dfalse (fun q => q h)] at hb
      subst hb
      rw [dtrue h]
      refine (bf rfl).trans ?_
      show core_placed.p110100 (.ip (eV pl)) s 0 0 st = _
      rw [core_placed.p110100_eq]
      rfl
    · rw [dtrue h] at hb
      subst hb
      rw [dfalse h]
      exact bt rfl
  rw [core_placed.b_eq]
  show (bif decide (pl < 0) then core_placed.p101 (.ip (eV pl)) s true st else core_placed.p101 (.ip (eV pl)) s (decide (s ≤ pl)) st) = _
  by_cases h : pl < 0
  · refine (bt (dtrue h)).trans ?_
    exact out true (dtrue (by omega)).symm
  · refine (bf (dfalse h)).trans ?_
    exact out _ (decide_eq_decide.2 (by omega))

/-! ### may -/
theorem kids1 (st : Sto) : CallR ap 46 [.int .i64 1] st = some (.ret (.int .i64 0), st) := by
  rw [shape_kids.call]
  refine ret_keep (st' := st) ?_ rfl rfl (Keeps.refl _ _)
  rw [shape_kids.b_eq]
  show shape_kids.p1001 1 true st = _
  rw [shape_kids.p1001_eq]
  rfl
theorem kids6 (st : Sto) : CallR ap 46 [.int .i64 6] st = some (.ret (.int .i64 0), st) := by
  rw [shape_kids.call]
  refine ret_keep (st' := st) ?_ rfl rfl (Keeps.refl _ _)
  rw [shape_kids.b_eq]
  show shape_kids.p1001 6 true st = _
  rw [shape_kids.p1001_eq]
  rfl

theorem expr1_end (e : List AV) (he : e[3]? = some .nils) (c3 : AV) (b : Bool) (S : Sto) : shape_Expr_1.p11111 (.ip e) c3 b S = some ⟨.ret (.bool b), none, S⟩ := by
  obtain ⟨x0, x1, x2, r, rfl⟩ : ∃ x0 x1 x2 r, e = x0 :: x1 :: x2 :: .nils :: r := by
    match e, he with
    | x0 :: x1 :: x2 :: y :: r, he =>
      simp only [List.getElem?_cons_succ, List.getElem?_cons_zero, Option.some.injEq] at he
      exact ⟨x0, x1, x2, r, by rw [he]⟩
  rw [shape_Expr_1.p11111_eq]
  show shape_Expr_1.p111110100 (.ip (x0 :: x1 :: x2 :: .nils :: r)) c3 b 0 0 S = _
  rw [shape_Expr_1.p111110100_eq]
  rfl

section
variable {S : Sto} {A B C D : Nat}
open Classical in
theorem expr1N (hA : S[A]? = some (.cells 0 [.int .i64 0] 0)) (hB : S[B]? = some (.cells 0 [.int .i64 1024] 0)) (hAB : A ≠ B) :
    CallR ap 45 [.ip eN, .mp A 0 0, .mp B 0 0, .mp C 0 0, .mp D 0 0] S = some (.ret (.bool true), S.set A (.cells 0 [.int .i64 1] 0)) := by
  have hAl := (List.getElem?_eq_some_iff.1 hA).1
  obtain ⟨T, hT⟩ : ∃ T, T = S.set A (.cells 0 [.int .i64 1] 0) := ⟨_, rfl⟩
  have hst : sto 1 S (.mp A 0 0) (.int .i64 1) = some T := by rw [hT]; exact sto_at hA (by decide) rfl rfl
  have hA1 : T[A]? = some (.cells 0 [.int .i64 1] 0) := by rw [hT]; exact List.getElem?_set_self hAl
  have hB1 : T[B]? = some (.cells 0 [.int .i64 1024] 0) := by rw [hT, List.getElem?_set_ne hAB]; exact hB
  have hb : shape_Expr_1.b (.ip eN) (.mp A 0 0) (.mp B 0 0) (.mp C 0 0) (.mp D 0 0) S = some ⟨.ret (.bool true), none, T⟩ := by
    rw [shape_Expr_1.b_eq]
    refine (br (m_get (n := 0) hA rfl)).trans ?_
    refine (br (aI _)).trans ?_
    refine (br hst).trans ?_
    refine (br (m_get (n := 0) hA1 rfl)).trans ?_
    refine (br (m_get (n := 0) hB1 rfl)).trans ?_
    refine (br (aI _)).trans ?_
    refine (br (aI _)).trans ?_
    refine (bf (dfalse (by decide))).trans ?_
    show ((CallR ap 46 [.int .i64 1] T).bind fun x11 => x11.1.on (fun v12 => if x11.2 = T then ((asI .i64 v12).bind fun n18 => shape_Expr_1.p1101 (.ip eN) (.mp C 0 0) (.mp D 0 0) (!decide (n18 = (((0 : Nat) : Nat) : Int))) T) else none) (fun e13 => none)) = _
    refine (cr (kids1 T)).trans ?_
    refine (it rfl).trans ?_
    refine (br (aI _)).trans ?_
    show shape_Expr_1.p1101 (.ip eN) (.mp C 0 0) (.mp D 0 0) false T = _
    rw [shape_Expr_1.p1101_eq]
    show shape_Expr_1.p1111 (.ip eN) (.mp C 0 0) (.mp D 0 0) (decide ((⟨#[]⟩ : ByteArray) = ⟨#[]⟩)) T = _
    rw [dtrue rfl, shape_Expr_1.p1111_eq]
    show shape_Expr_1.p11111 (.ip eN) (.mp D 0 0) true T = _
    exact expr1_end eN rfl _ _ _
  rw [shape_Expr_1.call, hb, ← hT]
  rfl
open Classical in
theorem expr1V (pl : Int) (hA : S[A]? = some (.cells 0 [.int .i64 0] 0)) (hB : S[B]? = some (.cells 0 [.int .i64 1024] 0)) (hC : S[C]? = some (.cells 0 [.bool true] 0)) (hAB : A ≠ B) (hAC : A ≠ C) :
    CallR ap 45 [.ip (eV pl), .mp A 0 0, .mp B 0 0, .mp C 0 0, .mp D 0 0] S = some (.ret (.bool true), S.set A (.cells 0 [.int .i64 1] 0)) := by
  have hAl := (List.getElem?_eq_some_iff.1 hA).1
  obtain ⟨T, hT⟩ : ∃ T, T = S.set A (.cells 0 [.int .i64 1] 0) := ⟨_, rfl⟩
  have hst : sto 1 S (.mp A 0 0) (.int .i64 1) = some T := by rw [hT]; exact sto_at hA (by decide) rfl rfl
  have hA1 : T[A]? = some (.cells 0 [.int .i64 1] 0) := by rw [hT]; exact List.getElem?_set_self hAl
  have hB1 : T[B]? = some (.cells 0 [.int .i64 1024] 0) := by rw [hT, List.getElem?_set_ne hAB]; exact hB
  have hC1 : T[C]? = some (.cells 0 [.bool true] 0) := by rw [hT, List.getElem?_set_ne hAC]; exact hC
  have tail : ∀ b, shape_Expr_1.p1111 (.ip (eV pl)) (.mp C 0 0) (.mp D 0 0) b T = some ⟨.ret (.bool true), none, T⟩ := by
    intro b
    rw [shape_Expr_1.p1111_eq]
    show ((ld false 1 T (.mp C 0 0)).bind fun v86 => (asB v86).bind fun q87 => bif q87 then (shape_Expr_1.p11111 (.ip (eV pl)) (.mp D 0 0) (decide ((⟨#[]⟩ : ByteArray) = ⟨#[]⟩)) T) else _) = _
    refine (br (m_get (n := 0) hC1 rfl)).trans ?_
    refine (br (aB _)).trans ?_
    refine (bt rfl).trans ?_
    rw [dtrue rfl]
    exact expr1_end (eV pl) rfl _ _ _
  have hb : shape_Expr_1.b (.ip (eV pl)) (.mp A 0 0) (.mp B 0 0) (.mp C 0 0) (.mp D 0 0) S = some ⟨.ret (.bool true), none, T⟩ := by
    rw [shape_Expr_1.b_eq]
    refine (br (m_get (n := 0) hA rfl)).trans ?_
    refine (br (aI _)).trans ?_
    refine (br hst).trans ?_
    refine (br (m_get (n := 0) hA1 rfl)).trans ?_
    refine (br (m_get (n := 0) hB1 rfl)).trans ?_
    refine (br (aI _)).trans ?_
    refine (br (aI _)).trans ?_
    refine (bf (dfalse (by decide))).trans ?_
    show ((CallR ap 46 [.int .i64 6] T).bind fun x11 => x11.1.on (fun v12 => if x11.2 = T then ((asI .i64 v12).bind fun n18 => shape_Expr_1.p1101 (.ip (eV pl)) (.mp C 0 0) (.mp D 0 0) (!decide (n18 = (((0 : Nat) : Nat) : Int))) T) else none) (fun e13 => none)) = _
    refine (cr (kids6 T)).trans ?_
    refine (it rfl).trans ?_
    refine (br (aI _)).trans ?_
    show shape_Expr_1.p1101 (.ip (eV pl)) (.mp C 0 0) (.mp D 0 0) false T = _
    rw [shape_Expr_1.p1101_eq]
    show (bif decide (pl = 0) then shape_Expr_1.p1111 (.ip (eV pl)) (.mp C 0 0) (.mp D 0 0) (decide ((⟨#[]⟩ : ByteArray) = ⟨#[]⟩)) T else shape_Expr_1.p1111 (.ip (eV pl)) (.mp C 0 0) (.mp D 0 0) false T) = _
    cases decide (pl = 0) with
    | true => exact (bt rfl).trans (tail _)
    | false => exact (bf rfl).trans (tail _)
  rw [shape_Expr_1.call, hb, ← hT]
  rfl
end

/-- May an expression be? -/
theorem expr_of {a : AV} (h : ∀ (S : Sto) (A B C D : Nat), S[A]? = some (.cells 0 [.int .i64 0] 0) → S[B]? = some (.cells 0 [.int .i64 1024] 0) → S[C]? = some (.cells 0 [.bool true] 0) → A ≠ B → A ≠ C → CallR ap 45 [a, .mp A 0 0, .mp B 0 0, .mp C 0 0, .mp D 0 0] S = some (.ret (.bool true), S.set A (.cells 0 [.int .i64 1] 0))) (st : Sto) :
    CallR ap 41 [a, .int .i64 1024, .bool true] st = some (.ret (.bool true), st) := by
  obtain ⟨S1, hS1⟩ : ∃ S1, S1 = st ++ [Ob.cells 0 [.int .i64 1024] 0] := ⟨_, rfl⟩
  have l1 : S1.length = st.length + 1 := by rw [hS1]; simp
  obtain ⟨S2, hS2⟩ : ∃ S2, S2 = S1 ++ [Ob.cells 0 [.bool true] 0] := ⟨_, rfl⟩
  have l2 : S2.length = st.length + 2 := by rw [hS2]; simp [l1]
  obtain ⟨S3, hS3⟩ : ∃ S3, S3 = S2 ++ [Ob.cells 0 [.int .i64 0] 0] := ⟨_, rfl⟩
  have l3 : S3.length = st.length + 3 := by rw [hS3]; simp [l2]
  have gA : S3[S2.length]? = some (.cells 0 [.int .i64 0] 0) := by rw [hS3]; exact last_get
  have gB3 : S3[st.length]? = some (.cells 0 [.int .i64 1024] 0) := by rw [hS3]; exact app_get (by rw [hS2]; exact app_get (by rw [hS1]; exact last_get))
  have gC3 : S3[S1.length]? = some (.cells 0 [.bool true] 0) := by rw [hS3]; exact app_get (by rw [hS2]; exact last_get)
  have st1 : sto 1 S3 (.mp S2.length 0 0) (.int .i64 0) = some S3 := by
    rw [sto_at gA (by decide) rfl rfl, set_same]
    exact gA
  obtain ⟨F, hF⟩ : ∃ F, F = AV.fn (.func 45) [] [.mp S2.length 0 0, .mp st.length 0 0, .mp S1.length 0 0, .mp S3.length 0 0] := ⟨_, rfl⟩
  obtain ⟨S4, hS4⟩ : ∃ S4, S4 = S3 ++ [Ob.cells 0 [F] 0] := ⟨_, rfl⟩
  have l4 : S4.length = st.length + 4 := by rw [hS4]; simp [l3]
  have st2 : sto 1 (S3 ++ [Ob.cells 0 [.nilfn] 0]) (.mp S3.length 0 0) F = some S4 := by
    rw [sto_at last_get (by decide) (by rw [hF]; rfl) (by rw [hF]; rfl), last_set, hS4]
    rfl
  have hc := h S4 S2.length st.length S1.length S3.length (by rw [hS4]; exact app_get gA) (by rw [hS4]; exact app_get gB3) (by rw [hS4]; exact app_get gC3) (by omega) (by omega)
  have hiv : invokeA ap (CallR ap) F [a] S4 = some (.ret (.bool true), S4.set S2.length (.cells 0 [.int .i64 1] 0)) := by rw [hF]; exact hc
  rw [shape_Expr.call]
  refine ret_keep (st' := S4.set S2.length (.cells 0 [.int .i64 1] 0)) ?_ rfl rfl ?_
  · rw [shape_Expr.b_eq, ← hS1, ← hS2, ← hS3]
    refine (br st1).trans ?_
    rw [← hF]
    refine (br st2).trans ?_
    refine (br (m_get (n := 0) (g := 0) (fz := 0) (cs := [F]) (by rw [hS4]; exact last_get) rfl)).trans ?_
    exact cr hiv
  · refine Keeps.trans ?_ (Keeps.set (by omega))
    rw [hS4, hS3, hS2, hS1, List.append_assoc, List.append_assoc, List.append_assoc]
    exact Keeps.app (Nat.le_refl _)
theorem mayN (s : Int) (st : Sto) : CallR ap 32 [.ip eN, .int .i64 s] st = some (.ret (.bool true), st) := by
  rw [core_may.call]
  refine ret_keep (st' := st) ?_ rfl rfl (Keeps.refl _ _)
  rw [core_may.b_eq]
  exact cr (expr_of (fun S A B C D hA hB _ hAB _ => expr1N hA hB hAB) st)
theorem mayV (pl s : Int) (st : Sto) : CallR ap 32 [.ip (eV pl), .int .i64 s] st = some (.ret (.bool true), st) := by
  rw [core_may.call]
  refine ret_keep (st' := st) ?_ rfl rfl (Keeps.refl _ _)
  rw [core_may.b_eq]
  exact cr (expr_of (fun S A B C D hA hB hC hAB hAC => expr1V pl hA hB hC hAB hAC) st)
end Go.Proofs.YtnjpbbiolngfkaaDoor
