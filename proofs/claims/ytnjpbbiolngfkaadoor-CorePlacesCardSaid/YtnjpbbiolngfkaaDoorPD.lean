/- Cores: expressions of a node, its form, its pieces, what lies behind it. -/
import Derived.Test.YtnjpbbiolngfkaaDoorPC
namespace Go.Proofs.YtnjpbbiolngfkaaDoor
open Go.St Go.Lib
set_option linter.unusedVariables false
set_option linter.unusedSimpArgs false

/-! ### exprs -/
theorem exprsW {k fn : AV} {s : Int} {b : Bool} {st : Sto} (hs : 0 ≤ s ∧ s ≤ 1000) (h : invokeA ap (CallR ap) fn [.ip eN, .int .i64 s] st = some (.ret (.bool b), st)) : CallR ap 31 [.ip (wC k), .int .i64 s, fn] st = some (.ret (.bool b), st) := by
  have w0 : IntKind.wrap .i64 (s + 0) = s := by rw [Int.add_zero]; exact wrap64 (by omega) (by omega)
  rw [core_exprs.call]
  refine ret_keep (st' := st) ?_ rfl rfl (Keeps.refl _ _)
  rw [core_exprs.b_eq]
  show core_exprs.p10100 (.ip (wC k)) s fn 0 0 st = _
  rw [core_exprs.p10100_eq]
  show core_exprs.p110100 (.ip (wC k)) s fn 0 0 st = _
  rw [core_exprs.p110100_eq]
  show core_exprs.p1110100 (.ip (wC k)) s fn 1 0 st = _
  rw [core_exprs.p1110100_eq]
  show core_exprs.p111010011001101 (.ip (wC k)) s fn 0 0 1 0 false st = _
  rw [core_exprs.p111010011001101_eq]
  show core_exprs.p11101001100111 (.ip (wC k)) s fn 0 0 1 0 st = _
  rw [core_exprs.p11101001100111_eq]
  refine (br rfl).trans ?_
  refine (br rfl).trans ?_
  refine (br rfl).trans ?_
  refine (br (show ia 4 (.is eN 1 .full) (.int .i64 0) = some (.ip eN) from rfl)).trans ?_
  rw [w0]
  refine (cr h).trans ?_
  refine (br (aB _)).trans ?_
  cases b with
  | false => exact bt rfl
  | true =>
    refine (bf rfl).trans ?_
    show core_exprs.p1110100 (.ip (wC k)) s fn 1 1 st = _
    rw [core_exprs.p1110100_eq]
    rfl
theorem exprsT {fn : AV} {s pl : Int} {b : Bool} {st : Sto} (h : invokeA ap (CallR ap) fn [.ip (eV pl), .int .i64 s] st = some (.ret (.bool b), st)) : CallR ap 31 [.ip (tC pl), .int .i64 s, fn] st = some (.ret (.bool b), st) := by
  rw [core_exprs.call]
  refine ret_keep (st' := st) ?_ rfl rfl (Keeps.refl _ _)
  rw [core_exprs.b_eq]
  show core_exprs.p10100 (.ip (tC pl)) s fn 0 0 st = _
  rw [core_exprs.p10100_eq]
  show core_exprs.p110100 (.ip (tC pl)) s fn 1 0 st = _
  rw [core_exprs.p110100_eq]
  refine (bt rfl).trans ?_
  refine (br rfl).trans ?_
  refine (br rfl).trans ?_
  refine (br rfl).trans ?_
  refine (br (show ia 6 (.is (pt pl) 1 .full) (.int .i64 0) = some (.ip (pt pl)) from rfl)).trans ?_
  refine (br (show fa 1 1 (.ip (pt pl)) = some (.ip [.bool true]) from rfl)).trans ?_
  refine (br rfl).trans ?_
  refine (br (gB _)).trans ?_
  refine gs.trans ?_
  refine (bt rfl).trans ?_
  refine (br rfl).trans ?_
  refine (br rfl).trans ?_
  refine (br rfl).trans ?_
  refine (br (show ia 6 (.is (pt pl) 1 .full) (.int .i64 0) = some (.ip (pt pl)) from rfl)).trans ?_
  refine (br (show fa 2 4 (.ip (pt pl)) = some (.ip (eV pl)) from rfl)).trans ?_
  refine (cr h).trans ?_
  refine (br (aB _)).trans ?_
  rw [core_exprs.p110100110011_eq]
  cases b with
  | false => exact bt rfl
  | true =>
    refine (bf rfl).trans ?_
    show core_exprs.p110100 (.ip (tC pl)) s fn 1 1 st = _
    rw [core_exprs.p110100_eq]
    show core_exprs.p1110100 (.ip (tC pl)) s fn 0 0 st = _
    rw [core_exprs.p1110100_eq]
    rfl

/-! ### formed -/
theorem setM_new {st : Sto} {es : List (AV × AV)} {k v : AV} (hk : known v = true) (hn : keyNo k es 0 = some none) : setM (.mr st.length) k v (st ++ [.map es]) = some (st ++ [.map (es ++ [(k, v)])]) := by
  have hg : (st ++ [Ob.map es])[st.length]? = some (.map es) := last_get
  unfold setM
  rw [if_pos hk]
  simp only [hg, hn, Option.bind_some]
  rw [last_set]
def forms : List (AV × AV) := [(.int .i64 1, .fn (.func 36) [] []), (.int .i64 2, .fn (.func 37) [] []), (.int .i64 3, .fn (.func 38) [] []), (.int .i64 4, .fn (.func 39) [] []), (.int .i64 5, .fn (.func 40) [] [])]
theorem formed_of {t0 : AV} {n : Int} {f : FuncId} {st : Sto} (hr : ∀ S : Sto, ((nilCk t0).bind fun v66 => (fa 0 1 v66).bind fun v67 => ld false 1 S v67) = some (.int .i64 n)) (hf : keyNo (.int .i64 n) forms 0 = some (some ((n - 1).toNat, .fn (.func f) [] []))) (hc : ∀ S : Sto, invokeA ap (CallR ap) (.fn (.func f) [] []) [t0] S = some (.ret (.bool true), S)) :
    core_formed.p101 t0 false st = some ⟨.ret (.bool true), none, st ++ [.map forms]⟩ := by
  rw [core_formed.p101_eq]
  refine (bf rfl).trans ?_
  refine (br (a := st ++ [Ob.map (forms.take 1)]) (setM_new (es := forms.take 0) rfl rfl)).trans ?_
  refine (br (a := st ++ [Ob.map (forms.take 2)]) (setM_new (es := forms.take 1) rfl rfl)).trans ?_
  refine (br (a := st ++ [Ob.map (forms.take 3)]) (setM_new (es := forms.take 2) rfl rfl)).trans ?_
  refine (br (a := st ++ [Ob.map (forms.take 4)]) (setM_new (es := forms.take 3) rfl rfl)).trans ?_
  refine (br (a := st ++ [Ob.map (forms.take 5)]) (setM_new (es := forms.take 4) rfl rfl)).trans ?_
  obtain ⟨S, hS⟩ : ∃ S, S = st ++ [Ob.map forms] := ⟨_, rfl⟩
  have hg : S[st.length]? = some (.map forms) := by rw [hS]; exact last_get
  rw [show st ++ [Ob.map (forms.take 5)] = S from hS.symm]
  have h1 : ∀ {F : AV → Option Res}, ((nilCk t0).bind fun v66 => (fa 0 1 v66).bind fun v67 => (ld false 1 S v67).bind fun v68 => F v68) = F (.int .i64 n) := by
    intro F
    have := hr S
    cases h2 : nilCk t0 with
    | none => rw [h2] at this; cases this
    | some a =>
      rw [h2] at this
      simp only [Option.bind_some] at this ⊢
      cases h3 : fa 0 1 a with
      | none => rw [h3] at this; cases this
      | some b =>
        rw [h3] at this
        simp only [Option.bind_some] at this ⊢
        rw [this]
        rfl
  refine h1.trans ?_
  have h2 : (if keyOk td3 (.int .i64 n) = true then lkM (pack false [.nilfn]) true (.mr st.length) (.int .i64 n) S else none) = some (.tup [.fn (.func f) [] [], .bool true]) := by
    rw [if_pos (show keyOk td3 (.int .i64 n) = true from rfl)]
    unfold lkM mapOf
    simp only [hg, Option.bind_some, hf, if_true]
  refine (br h2).trans ?_
  refine (br (x0 _ _)).trans ?_
  refine (br (x1 _ _ _)).trans ?_
  refine (br (gB _)).trans ?_
  refine gs.trans ?_
  refine (bt rfl).trans ?_
  refine (cr (hc S)).trans ?_
  rw [← hS]
  exact br (aB _)
theorem formed3 (a : AV) (S : Sto) : CallR ap 40 [a] S = some (.ret (.bool true), S) := by
  rw [core_formed_3.call]
  exact ret_keep (core_formed_3.b_eq a S) rfl rfl (Keeps.refl _ _)
theorem formedW (k : AV) (st : Sto) : CallR ap 30 [.ip (wC k)] st = some (.ret (.bool true), st) := by
  rw [core_formed.call]
  refine ret_keep (st' := st ++ [.map forms]) ?_ rfl rfl (Keeps.app (Nat.le_refl _))
  rw [core_formed.b_eq]
  show core_formed.p101 (.ip (wC k)) false st = _
  exact formed_of (n := 5) (f := 40) (fun S => rfl) rfl (fun S => formed3 _ S)
theorem text_spec (pl : Int) (S : Sto) : CallR ap 36 [.ip (tC pl)] S = some (.ret (.bool true), S) := by
  rw [core_text.call]
  refine ret_keep (st' := S) ?_ rfl rfl (Keeps.refl _ _)
  rw [core_text.b_eq]
  show core_text.p10100 (.ip (tC pl)) 1 0 S = _
  rw [core_text.p10100_eq]
  refine (bt rfl).trans ?_
  refine (br rfl).trans ?_
  refine (br rfl).trans ?_
  refine (br rfl).trans ?_
  refine (br (show ia 6 (.is (pt pl) 1 .full) (.int .i64 0) = some (.ip (pt pl)) from rfl)).trans ?_
  refine (br rfl).trans ?_
  refine (br (show fa 1 1 (.ip (pt pl)) = some (.ip [.bool true]) from rfl)).trans ?_
  refine (br rfl).trans ?_
  refine (br (gB _)).trans ?_
  refine gs.trans ?_
  refine (bt rfl).trans ?_
  refine (br rfl).trans ?_
  refine (br (show fa 0 1 (.ip (pt pl)) = some (.ip [.str ⟨#[]⟩]) from rfl)).trans ?_
  refine (br rfl).trans ?_
  refine (br (aS _)).trans ?_
  refine (bf (by rw [dtrue rfl]; rfl)).trans ?_
  refine (br rfl).trans ?_
  refine (br (show fa 1 1 (.ip (pt pl)) = some (.ip [.bool true]) from rfl)).trans ?_
  refine (br rfl).trans ?_
  refine (br (aB _)).trans ?_
  refine (bf rfl).trans ?_
  rw [core_text.p101001100111_eq]
  refine (bf rfl).trans ?_
  show core_text.p10100 (.ip (tC pl)) 1 1 S = _
  rw [core_text.p10100_eq]
  rfl
theorem formedT (pl : Int) (st : Sto) : CallR ap 30 [.ip (tC pl)] st = some (.ret (.bool true), st) := by
  rw [core_formed.call]
  refine ret_keep (st' := st ++ [.map forms]) ?_ rfl rfl (Keeps.app (Nat.le_refl _))
  rw [core_formed.b_eq]
  show core_formed.p101 (.ip (tC pl)) false st = _
  exact formed_of (n := 1) (f := 36) (fun S => rfl) rfl (fun S => text_spec pl S)

/-! ### behind -/
theorem behind_end {st : Sto} {s n l : Int} {x : AV} {z : List AV} (hz : z = [.int .i64 0, .int .i64 0, .int .i64 0]) :
    core_around_behind.p11 st.length (st ++ [Ob.cells 0 [.int .i64 s, .int .i64 n, .int .i64 l] 0]).length ((st ++ [Ob.cells 0 [.int .i64 s, .int .i64 n, .int .i64 l] 0]) ++ [Ob.cells 0 z 0]) = some ⟨.ret (.agg [.int .i64 s, .int .i64 n, .int .i64 l]), none, (st ++ [Ob.cells 0 [.int .i64 s, .int .i64 n, .int .i64 l] 0]) ++ [Ob.cells 0 [.int .i64 s, .int .i64 n, .int .i64 l] 0]⟩ := by
  subst hz
  rw [core_around_behind.p11_eq]
  refine (br (m_all (g := 0) (fz := 0) (app_get last_get) rfl)).trans ?_
  refine (br (m_new (cs := [.int .i64 0, .int .i64 0, .int .i64 0]) (cs' := [.int .i64 s, .int .i64 n, .int .i64 l]) rfl rfl rfl)).trans ?_
  exact br (m_all (g := 0) (fz := 0) last_get rfl)
theorem behindT (s n l pl : Int) (st : Sto) : CallR ap 28 [.agg [.int .i64 s, .int .i64 n, .int .i64 l], .ip (tC pl)] st = some (.ret (.agg [.int .i64 s, .int .i64 n, .int .i64 l]), st) := by
  rw [core_around_behind.call]
  refine ret_keep (st' := (st ++ [Ob.cells 0 [.int .i64 s, .int .i64 n, .int .i64 l] 0]) ++ [Ob.cells 0 [.int .i64 s, .int .i64 n, .int .i64 l] 0]) ?_ rfl rfl (by rw [List.append_assoc]; exact Keeps.app (Nat.le_refl _))
  rw [core_around_behind.b_eq]
  refine (it rfl).trans ?_
  refine (br rfl).trans ?_
  refine (br rfl).trans ?_
  refine (br rfl).trans ?_
  refine (br (aI _)).trans ?_
  refine (bf (by decide)).trans ?_
  refine (br (aI _)).trans ?_
  refine (bf (by decide)).trans ?_
  refine (br (aI _)).trans ?_
  refine (bf (by decide)).trans ?_
  exact behind_end (x := .nils) rfl
theorem behindW (s n l : Int) (hs : 0 ≤ s ∧ s ≤ 1000) (k : AV) (st : Sto) : CallR ap 28 [.agg [.int .i64 s, .int .i64 n, .int .i64 l], .ip (wC k)] st = some (.ret (.agg [.int .i64 (s + 1), .int .i64 n, .int .i64 l]), st) := by
  have ws : IntKind.wrap .i64 (s + ((1 : Nat) : Int)) = s + 1 := wrap64 (by omega) (by omega)
  rw [core_around_behind.call]
  refine ret_keep (st' := (st ++ [Ob.cells 0 [.int .i64 (s + 1), .int .i64 n, .int .i64 l] 0]) ++ [Ob.cells 0 [.int .i64 (s + 1), .int .i64 n, .int .i64 l] 0]) ?_ rfl rfl (by rw [List.append_assoc]; exact Keeps.app (Nat.le_refl _))
  rw [core_around_behind.b_eq]
  refine (it rfl).trans ?_
  refine (br rfl).trans ?_
  refine (br rfl).trans ?_
  refine (br rfl).trans ?_
  refine (br (aI _)).trans ?_
  refine (bf (by decide)).trans ?_
  refine (br (aI _)).trans ?_
  refine (bf (by decide)).trans ?_
  refine (br (aI _)).trans ?_
  refine (bt (by decide)).trans ?_
  have hg : ((st ++ [Ob.cells 0 [.int .i64 s, .int .i64 n, .int .i64 l] 0]) ++ [Ob.cells 0 [.int .i64 0, .int .i64 0, .int .i64 0] 0])[st.length]? = some (.cells 0 [.int .i64 s, .int .i64 n, .int .i64 l] 0) := app_get last_get
  have hst : sto 1 ((st ++ [Ob.cells 0 [.int .i64 s, .int .i64 n, .int .i64 l] 0]) ++ [Ob.cells 0 [.int .i64 0, .int .i64 0, .int .i64 0] 0]) (.mp st.length 0 0) (.int .i64 (s + 1)) = some ((st ++ [Ob.cells 0 [.int .i64 (s + 1), .int .i64 n, .int .i64 l] 0]) ++ [Ob.cells 0 [.int .i64 0, .int .i64 0, .int .i64 0] 0]) := by
    rw [sto_at hg (by show 0 < 3; omega) rfl rfl, List.set_append_left _ _ (by simp), last_set]
    rfl
  refine (br (m_get (n := 0) hg rfl)).trans ?_
  refine (br rfl).trans ?_
  refine (br rfl).trans ?_
  refine (br rfl).trans ?_
  refine (br (show lenL (.is eN 1 .full) = some 1 from rfl)).trans ?_
  refine (br (aI _)).trans ?_
  rw [ws]
  refine (br hst).trans ?_
  have := behind_end (st := st) (s := s + 1) (n := n) (l := l) (x := .nils) (z := [.int .i64 0, .int .i64 0, .int .i64 0]) rfl
  rw [show (st ++ [Ob.cells 0 [.int .i64 (s + 1), .int .i64 n, .int .i64 l] 0]).length = (AV.cells (.agg [.int .i64 s, .int .i64 n, .int .i64 l]) |> fun c => st ++ [Ob.cells 0 c 0]).length by simp] at this
  exact this
end Go.Proofs.YtnjpbbiolngfkaaDoor
