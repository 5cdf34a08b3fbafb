/- Cores: pieces. -/
import Derived.Test.YtnjpbbiolngfkaaDoorPD
namespace Go.Proofs.YtnjpbbiolngfkaaDoor
open Go.St Go.Lib
set_option linter.unusedVariables false
set_option linter.unusedSimpArgs false

theorem nodesE {e : List AV} (he : e[3]? = some .nils) (n : Int) (hn : 0 ≤ n ∧ n ≤ 4096) (st : Sto) : CallR ap 35 [.ip e, .int .i64 n, .int .i64 4096] st = some (.ret (.int .i64 (n + 1)), st) := by
  have w : IntKind.wrap .i64 (n + 1) = n + 1 := wrap64 (by omega) (by omega)
  obtain ⟨y0, y1, y2, r, rfl⟩ : ∃ x0 x1 x2 r, e = x0 :: x1 :: x2 :: .nils :: r := by
    match e, he with
    | x0 :: x1 :: x2 :: y :: r, he =>
      simp only [List.getElem?_cons_succ, List.getElem?_cons_zero, Option.some.injEq] at he
      exact ⟨x0, x1, x2, r, by rw [he]⟩
  rw [shape_nodes.call]
  refine ret_keep (st' := st) ?_ rfl rfl (Keeps.refl _ _)
  rw [shape_nodes.b_eq, w]
  show shape_nodes.p110100 (.ip (y0 :: y1 :: y2 :: .nils :: r)) (.int .i64 (n + 1)) 4096 0 0 st = _
  rw [shape_nodes.p110100_eq]
  show shape_nodes.p111 (.int .i64 (n + 1)) st = _
  rw [shape_nodes.p111_eq]

/-- The pieces of one expression are added. -/
theorem addE {e : List AV} (he : e[3]? = some .nils) {S : Sto} {A B : Nat} {n : Int} (hn : 0 ≤ n ∧ n ≤ 4096) (hA : S[A]? = some (.cells 0 [.int .i64 n] 0)) (hB : S[B]? = some (.cells 0 [.int .i64 4096] 0)) :
    invokeA ap (CallR ap) (.fn (.func 34) [] [.mp A 0 0, .mp B 0 0]) [.ip e] S = some (.ret (.tup []), S.set A (.cells 0 [.int .i64 (n + 1)] 0)) := by
  show CallR ap 34 [.ip e, .mp A 0 0, .mp B 0 0] S = _
  have hb : shape_Pieces_1.b (.ip e) (.mp A 0 0) (.mp B 0 0) S = some ⟨.ret (.tup []), none, S.set A (.cells 0 [.int .i64 (n + 1)] 0)⟩ := by
    rw [shape_Pieces_1.b_eq]
    refine (br (m_get (n := 0) hA rfl)).trans ?_
    refine (br (m_get (n := 0) hB rfl)).trans ?_
    refine (br (aI _)).trans ?_
    refine (br (aI _)).trans ?_
    refine (bt (dtrue hn.2)).trans ?_
    refine (br (m_get (n := 0) hA rfl)).trans ?_
    refine (br (m_get (n := 0) hB rfl)).trans ?_
    refine (cr (nodesE he n hn S)).trans ?_
    refine (br (sto_at hA (by show 0 < 1; omega) rfl rfl)).trans ?_
    rfl
  rw [shape_Pieces_1.call, hb]
  rfl

section
variable {cs : List AV} {st : Sto}
/-- What stands before the expressions are counted. -/
theorem pieces_start {c0 c1 c5 c6 a b x : AV} {m1 m2 m3 : Nat} (h1 : lenL a = some m1) (h2 : lenL b = some m2) (h3 : lenL x = some m3) (hb : m1 + m2 + m3 ≤ 1000) (h0 : m1 = 0) :
    shape_Pieces.b (.ip [c0, c1, a, b, x, c5, c6]) 4096 st = shape_Pieces.p11110100 (.ip [c0, c1, a, b, x, c5, c6]) (st.length + 1) (.fn (.func 34) [] [.mp (st.length + 1) 0 0, .mp st.length 0 0]) ((m2 : Nat) : Int) 0 ((st ++ [Ob.cells 0 [.int .i64 4096] 0]) ++ [Ob.cells 0 [.int .i64 ((1 + m1 + m2 + m3 : Nat) : Int)] 0]) := by
  have e1 : (st ++ [Ob.cells 0 [.int .i64 4096] 0]).length = st.length + 1 := by simp
  have w1 : IntKind.wrap .i64 (1 + ((m1 : Nat) : Int)) = ((1 + m1 : Nat) : Int) := wrap64 (by omega) (by omega)
  have w2 : IntKind.wrap .i64 (((1 + m1 : Nat) : Int) + ((m2 : Nat) : Int)) = ((1 + m1 + m2 : Nat) : Int) := wrap64 (by omega) (by omega)
  have w3 : IntKind.wrap .i64 (((1 + m1 + m2 : Nat) : Int) + ((m3 : Nat) : Int)) = ((1 + m1 + m2 + m3 : Nat) : Int) := wrap64 (by omega) (by omega)
  rw [shape_Pieces.b_eq]
  refine (br rfl).trans ?_
  refine (br (show fa 2 1 (.ip [c0, c1, a, b, x, c5, c6]) = some (.ip [a]) from rfl)).trans ?_
  refine (br (show ld false 1 _ (.ip [a]) = some a from rfl)).trans ?_
  refine (br h1).trans ?_
  refine (br rfl).trans ?_
  refine (br (show fa 3 1 (.ip [c0, c1, a, b, x, c5, c6]) = some (.ip [b]) from rfl)).trans ?_
  refine (br (show ld false 1 _ (.ip [b]) = some b from rfl)).trans ?_
  refine (br h2).trans ?_
  refine (br rfl).trans ?_
  refine (br (show fa 4 1 (.ip [c0, c1, a, b, x, c5, c6]) = some (.ip [x]) from rfl)).trans ?_
  refine (br (show ld false 1 _ (.ip [x]) = some x from rfl)).trans ?_
  refine (br h3).trans ?_
  refine (br h3).trans ?_
  refine (it rfl).trans ?_
  refine (br (show ld false 1 _ (.ip [x]) = some x from rfl)).trans ?_
  refine (it rfl).trans ?_
  refine (br h2).trans ?_
  refine (it rfl).trans ?_
  refine (br (show ld false 1 _ (.ip [b]) = some b from rfl)).trans ?_
  refine (it rfl).trans ?_
  refine (br h1).trans ?_
  refine (it rfl).trans ?_
  refine (br (show ld false 1 _ (.ip [a]) = some a from rfl)).trans ?_
  refine (it rfl).trans ?_
  rw [w1, w2, w3]
  have hst : sto 1 ((st ++ [Ob.cells 0 [.int .i64 4096] 0]) ++ [Ob.cells 0 [.int .i64 0] 0]) (.mp (st ++ [Ob.cells 0 [.int .i64 4096] 0]).length 0 0) (.int .i64 ((1 + m1 + m2 + m3 : Nat) : Int)) = some ((st ++ [Ob.cells 0 [.int .i64 4096] 0]) ++ [Ob.cells 0 [.int .i64 ((1 + m1 + m2 + m3 : Nat) : Int)] 0]) := by
    rw [sto_at last_get (by show 0 < 1; omega) rfl rfl, last_set]
    rfl
  refine (br hst).trans ?_
  refine (br rfl).trans ?_
  refine (br (show fa 2 1 (.ip [c0, c1, a, b, x, c5, c6]) = some (.ip [a]) from rfl)).trans ?_
  refine (br (show ld false 1 _ (.ip [a]) = some a from rfl)).trans ?_
  refine (br h1).trans ?_
  rw [e1, shape_Pieces.p1110100_eq]
  refine (bf (dfalse (by omega))).trans ?_
  refine (br rfl).trans ?_
  refine (br (show fa 3 1 (.ip [c0, c1, a, b, x, c5, c6]) = some (.ip [b]) from rfl)).trans ?_
  refine (br (show ld false 1 _ (.ip [b]) = some b from rfl)).trans ?_
  exact br h2
end

theorem piecesW (k : AV) (st : Sto) : CallR ap 29 [.ip (wC k), .int .i64 4096] st = some (.ret (.int .i64 3), st) := by
  obtain ⟨S, hS⟩ : ∃ S, S = (st ++ [Ob.cells 0 [.int .i64 4096] 0]) ++ [Ob.cells 0 [.int .i64 2] 0] := ⟨_, rfl⟩
  have e1 : (st ++ [Ob.cells 0 [.int .i64 4096] 0]).length = st.length + 1 := by simp
  have hA : S[st.length + 1]? = some (.cells 0 [.int .i64 2] 0) := by rw [hS, ← e1]; exact last_get
  have hB : S[st.length]? = some (.cells 0 [.int .i64 4096] 0) := by rw [hS]; exact app_get last_get
  have hAl := (List.getElem?_eq_some_iff.1 hA).1
  have hv := addE (e := eN) rfl (by omega) hA hB
  have h0 := pieces_start (st := st) (c0 := .int .i64 5) (c1 := .str ⟨#[]⟩) (c5 := k) (c6 := .nils) (a := .nils) (b := .nils) (x := .is eN 1 .full) (m1 := 0) (m2 := 0) (m3 := 1) rfl rfl rfl (by omega) rfl
  rw [show (((1 + 0 + 0 + 1 : Nat) : Nat) : Int) = 2 from rfl, ← hS] at h0
  rw [shape_Pieces.call]
  refine ret_keep (st' := S.set (st.length + 1) (.cells 0 [.int .i64 3] 0)) ?_ rfl rfl ?_
  · refine Eq.trans h0 ?_
    rw [shape_Pieces.p11110100_eq]
    refine (bf rfl).trans ?_
    refine (br rfl).trans ?_
    refine (br rfl).trans ?_
    refine (br rfl).trans ?_
    refine (br (show lenL (.is eN 1 .full) = some 1 from rfl)).trans ?_
    rw [shape_Pieces.p111110100_eq]
    refine (bt rfl).trans ?_
    refine (br rfl).trans ?_
    refine (br rfl).trans ?_
    refine (br rfl).trans ?_
    refine (br (show ia 4 (.is eN 1 .full) (.int .i64 0) = some (.ip eN) from rfl)).trans ?_
    refine (cr hv).trans ?_
    show shape_Pieces.p111110100 (.ip (wC k)) (st.length + 1) _ 1 1 (S.set (st.length + 1) (.cells 0 [.int .i64 3] 0)) = _
    rw [shape_Pieces.p111110100_eq]
    refine (bf rfl).trans ?_
    exact br (m_get (n := 0) (List.getElem?_set_self hAl) rfl)
  · rw [hS, List.append_assoc]
    exact (Keeps.app (Nat.le_refl _)).trans (Keeps.set (by omega))
theorem piecesT (pl : Int) (st : Sto) : CallR ap 29 [.ip (tC pl), .int .i64 4096] st = some (.ret (.int .i64 3), st) := by
  obtain ⟨S, hS⟩ : ∃ S, S = (st ++ [Ob.cells 0 [.int .i64 4096] 0]) ++ [Ob.cells 0 [.int .i64 2] 0] := ⟨_, rfl⟩
  have e1 : (st ++ [Ob.cells 0 [.int .i64 4096] 0]).length = st.length + 1 := by simp
  have hA : S[st.length + 1]? = some (.cells 0 [.int .i64 2] 0) := by rw [hS, ← e1]; exact last_get
  have hB : S[st.length]? = some (.cells 0 [.int .i64 4096] 0) := by rw [hS]; exact app_get last_get
  have hAl := (List.getElem?_eq_some_iff.1 hA).1
  have hv := addE (e := eV pl) rfl (by omega) hA hB
  have h0 := pieces_start (st := st) (c0 := .int .i64 1) (c1 := .str ⟨#[]⟩) (c5 := .nils) (c6 := .nils) (a := .nils) (b := .is (pt pl) 1 .full) (x := .nils) (m1 := 0) (m2 := 1) (m3 := 0) rfl rfl rfl (by omega) rfl
  rw [show (((1 + 0 + 1 + 0 : Nat) : Nat) : Int) = 2 from rfl, ← hS] at h0
  rw [shape_Pieces.call]
  refine ret_keep (st' := S.set (st.length + 1) (.cells 0 [.int .i64 3] 0)) ?_ rfl rfl ?_
  · refine Eq.trans h0 ?_
    rw [shape_Pieces.p11110100_eq]
    refine (bt rfl).trans ?_
    refine (br rfl).trans ?_
    refine (br rfl).trans ?_
    refine (br rfl).trans ?_
    refine (br (show ia 6 (.is (pt pl) 1 .full) (.int .i64 0) = some (.ip (pt pl)) from rfl)).trans ?_
    refine (br (show fa 1 1 (.ip (pt pl)) = some (.ip [.bool true]) from rfl)).trans ?_
    refine (br rfl).trans ?_
    refine (br (aB _)).trans ?_
    refine (bt rfl).trans ?_
    refine (br rfl).trans ?_
    refine (br rfl).trans ?_
    refine (br rfl).trans ?_
    refine (br (show ia 6 (.is (pt pl) 1 .full) (.int .i64 0) = some (.ip (pt pl)) from rfl)).trans ?_
    refine (br (show fa 2 4 (.ip (pt pl)) = some (.ip (eV pl)) from rfl)).trans ?_
    refine (cr hv).trans ?_
    rw [shape_Pieces.p11110100111_eq]
    show shape_Pieces.p11110100 (.ip (tC pl)) (st.length + 1) _ 1 1 (S.set (st.length + 1) (.cells 0 [.int .i64 3] 0)) = _
    rw [shape_Pieces.p11110100_eq]
    refine (bf rfl).trans ?_
    refine (br rfl).trans ?_
    refine (br rfl).trans ?_
    refine (br rfl).trans ?_
    refine (br rfl).trans ?_
    rw [shape_Pieces.p111110100_eq]
    refine (bf rfl).trans ?_
    exact br (m_get (n := 0) (List.getElem?_set_self hAl) rfl)
  · rw [hS, List.append_assoc]
    exact (Keeps.app (Nat.le_refl _)).trans (Keeps.set (by omega))
end Go.Proofs.YtnjpbbiolngfkaaDoor
