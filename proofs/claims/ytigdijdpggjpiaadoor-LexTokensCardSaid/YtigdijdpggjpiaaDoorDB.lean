/- LexTokens at the machine. -/
import Derived.Test.YtigdijdpggjpiaaDoorDA
namespace Go.Proofs.YtigdijdpggjpiaaDoor
open Go.St Go.Lib
set_option linter.unusedVariables false
set_option linter.unusedSimpArgs false

theorem tokens_fin {x1 x2 y : AV} {st2 st3 : Sto} (e1 : CallR ap 11 [x1] st2 = some (.ret (.tup []), st3)) (d2 : CallR ap 10 [x2, y] st3 = some (.ret (.bool true), st3)) :
    stencillaw12_LexTokens.p111101 x1 x2 y false st2 = some ⟨.ret (.bool true), none, st3⟩ := by
  rw [stencillaw12_LexTokens.p111101_eq]
  simp only [cond_false, e1, d2, Option.bind_some, Out.on, guardT, gOn, cond_true, awake_spec, asB]
theorem tokens_run {s : ByteArray} {x1 x2 y : AV} {st1 st2 st3 : Sto} {p c : Int} (a1 : CallR ap 7 [.str s] [] = some (.ret (.tup [x1, .int .i64 p, .int .i64 c]), st1)) (b1 : CallR ap 7 [.str s] st1 = some (.ret (.tup [x2, .int .i64 p, .int .i64 c]), st2))
    (c1 : CallR ap 8 [.str s] st2 = some (.ret (.tup [y, .int .i64 p, .int .i64 c]), st2)) (d1 : CallR ap 10 [x1, y] st2 = some (.ret (.bool true), st2)) (fin : stencillaw12_LexTokens.p111101 x1 x2 y false st2 = some ⟨.ret (.bool true), none, st3⟩) :
    stencillaw12_LexTokens.b s [] = some ⟨.ret (.bool true), none, st3⟩ := by
  have hc : decide (c = c) = true := decide_eq_true (Eq.refl _)
  have hp : decide (p = p) = true := decide_eq_true (Eq.refl _)
  rw [stencillaw12_LexTokens.b_eq, a1]
  simp only [Option.bind_some, Out.on, ext, List.getElem?_cons_zero, List.getElem?_cons_succ]
  rw [b1]
  simp only [Option.bind_some, Out.on, ext, List.getElem?_cons_zero, List.getElem?_cons_succ]
  rw [c1]
  simp only [Option.bind_some, Out.on, ext, List.getElem?_cons_zero, List.getElem?_cons_succ]
  rw [num]
  simp only [Option.bind_some, asI, if_true, decide_true, Bool.not_true, cond_false]
  rw [num]
  simp only [Option.bind_some, asI, if_true, decide_true, Bool.not_true, cond_false]
  rw [d1]
  simp only [Option.bind_some, asB, Bool.not_true]
  exact fin

theorem tokens_law (s : ByteArray) (hs : s.size < 4611686018427387904) : CallR ap 3 [.str s] [] = some (.ret (.bool true), []) := by
  obtain ⟨r, hr⟩ := scan_ex s s.size 0 (by omega) (Nat.zero_le _)
  obtain ⟨x1, st1, a1, a2, a3⟩ := lex_out hs hr []
  obtain ⟨x2, st2, b1, b2, b3⟩ := lex_out hs hr st1
  obtain ⟨y, c1, c2⟩ := rLex_spec hs hr st2
  have hlen : (outT (lexR s r)).length ≤ 1000000 := by
    cases he : lexR s r with
    | error e => simp [outT]
    | ok ts =>
      obtain ⟨h1, h2, h3⟩ := lexR_ok he
      have := lexM_len h3 (Nat.zero_le _)
      rw [← size_list] at this
      show ts.length ≤ _
      omega
  generalize outT (lexR s r) = ts at *
  generalize outP (lexR s r) = p at *
  generalize outC (lexR s r) = c at *
  have a4 := a2.keep b3
  have d1 := same_spec a4.reads (c2 st2) hlen
  rw [show decide (ts = ts) = true from decide_eq_true (Eq.refl ts)] at d1
  obtain ⟨st3, e1, e2, e3⟩ := spoil_spec a4 hlen
  have b4 : Row st1.length st3 x2 ts := by
    rcases b2 with b2 | ⟨id, g, h1, h2, h3⟩
    · exact .inl b2
    · refine .inr ⟨id, g, h1, h2, ?_⟩
      rw [e3 id, h3]
      rintro id' g' l rfl
      rcases a2 with ⟨a2, _⟩ | ⟨i, g2, _, a2, a5⟩
      · cases a2
      · obtain ⟨rfl, _⟩ := AV.ms.inj a2
        have := (List.getElem?_eq_some_iff.1 a5).1
        omega
  have d2 := same_spec b4.reads (c2 st3) hlen
  rw [show decide (ts = ts) = true from decide_eq_true (Eq.refl ts)] at d2
  rw [stencillaw12_LexTokens.call]
  refine ret_keep (st' := st3) ?_ rfl rfl ⟨by simp, fun i hi => by simp at hi⟩
  exact tokens_run a1 b1 c1 d1 (tokens_fin e1 d2)
end Go.Proofs.YtigdijdpggjpiaaDoor
