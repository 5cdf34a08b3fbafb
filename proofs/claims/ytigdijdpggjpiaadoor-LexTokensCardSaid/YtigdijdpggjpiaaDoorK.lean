/- Rows of tokens, read; and what keeps the laws awake. -/
import Derived.Test.YtigdijdpggjpiaaDoorV
namespace Go.Proofs.YtigdijdpggjpiaaDoor
open Go.St Go.Lib
set_option linter.unusedVariables false
set_option linter.unusedSimpArgs false

theorem tcells_drop (ts : List Tk) (j : Nat) : (tcells ts).drop (j * 4) = tcells (ts.drop j) := by
  induction j generalizing ts with
  | zero => rw [Nat.zero_mul]; rfl
  | succ j ih =>
    cases ts with
    | nil => simp [tcells]
    | cons t r =>
      rw [show (j + 1) * 4 = 4 + j * 4 by omega, ← List.drop_drop]
      show List.drop (j * 4) (tcells r) = _
      rw [ih]
      rfl
theorem tcells_at {ts : List Tk} {j : Nat} {t : Tk} (h : ts[j]? = some t) : (tcells ts).drop (j * 4) = tcell t ++ tcells (ts.drop (j + 1)) := by
  obtain ⟨h1, h2⟩ := List.getElem?_eq_some_iff.1 h
  rw [tcells_drop, List.drop_eq_getElem_cons h1, h2]
  rfl
theorem tcell_len (t : Tk) : (tcell t).length = 4 := rfl

theorem Row.len {n : Nat} {st : Sto} {x : AV} {ts : List Tk} (h : Row n st x ts) : lenL x = some ts.length := by
  rcases h with ⟨rfl, rfl⟩ | ⟨id, g, _, rfl, _⟩ <;> rfl
theorem Row.keep {n : Nat} {st st' : Sto} {x : AV} {ts : List Tk} (h : Row n st x ts) (hk : Keeps st.length st st') : Row n st' x ts := by
  rcases h with h | ⟨id, g, h1, h2, h3⟩
  · exact .inl h
  · exact .inr ⟨id, g, h1, h2, by rw [hk.at_ _ (List.getElem?_eq_some_iff.1 h3).1, h3]⟩
theorem Row.at {n : Nat} {st : Sto} {x : AV} {ts : List Tk} (h : Row n st x ts) {j : Nat} {t : Tk} (hj : ts[j]? = some t) :
    ∃ id g o, ia 4 x (.int .i64 (j : Nat)) = some (.mp id g o) ∧ ld true 4 st (.mp id g o) = some (.agg (tcell t)) ∧ (∀ k y, (tcell t)[k]? = some y → fa k 1 (.mp id g o) = some (.mp id g (o + k)) ∧ ld false 1 st (.mp id g (o + k)) = some y) := by
  have hlt := (List.getElem?_eq_some_iff.1 hj).1
  rcases h with ⟨_, rfl⟩ | ⟨id, g, h1, rfl, h3⟩
  · simp at hlt
  · have hl := tcells_len ts
    have hd := tcells_at hj
    refine ⟨id, g, 0 + j * 4, by simp only [ia, if_true, idx_nat hlt, Option.bind_some], ?_, fun k y hy => ⟨rfl, ?_⟩⟩
    · simp only [ld, ldCells, h3]
      have hle : j * 4 + 4 ≤ (tcells ts).length := by omega
      simp only [Nat.zero_add, hle, and_self, if_true, Option.bind_some, hd, pack]
      rfl
    · have hk : k < 4 := (List.getElem?_eq_some_iff.1 hy).1
      refine m_get h3 ?_
      have := congrArg (fun l : List AV => l[k]?) hd
      simp only [List.getElem?_drop] at this
      rw [Nat.zero_add, this, List.getElem?_append_left hk]
      exact hy

/-! ### Tokens, compared -/
theorem eq_tok (a b : Tk) : eqV .struct [.i, .s, .s, .i] false (.agg (tcell a)) (.agg (tcell b)) = some (decide (a = b)) := by
  have e1 : ∀ x y : List UInt8, (mk x = mk y) = (x = y) := fun x y => propext ⟨mk_inj, fun h => by rw [h]⟩
  have e2 : ∀ x y : Nat, (((x : Nat) : Int) = ((y : Nat) : Int)) = (x = y) := fun x y => propext ⟨fun h => by omega, fun h => by omega⟩
  have e3 : (a = b) = (a.kind = b.kind ∧ a.name = b.name ∧ a.text = b.text ∧ a.at_ = b.at_) := by
    cases a; cases b; simp
  simp only [eqV, tcell, eqCells, e1, e2, e3]
  by_cases h1 : a.kind = b.kind <;> by_cases h2 : a.name = b.name <;> by_cases h3 : a.text = b.text <;> by_cases h4 : a.at_ = b.at_ <;> simp [h1, h2, h3, h4, e1, e2, eqCells, eqF]

/-! ### Awake -/
theorem scan_ascii {s : ByteArray} (h : ∀ i, i < s.size → bat s i < 128) : ∀ (m i : Nat), i + m = s.size → Scan s i none := by
  intro m
  induction m with
  | zero => intro i hi; exact .done i (by omega)
  | succ m ih =>
    intro i hi
    have hb := h i (by omega)
    have hd : dec s i = (bat s i, 1) := by
      rw [dec_eq]
      rcases decodeN_cases (s.size - i) (bat s i) (bat s (i + 1)) (bat s (i + 2)) (bat s (i + 3)) (bat_lt _ _) with ⟨h0, h⟩ | ⟨h0, h⟩ | h
      all_goals first | exact h | (exfalso; omega) | skip
    refine .step i none (by omega) ?_ (by rw [hd]; exact ih (i + 1) (by omega))
    unfold Bad
    omega

def wake1 : ByteArray := ⟨#[97, 123, 123, 32, 98, 32, 125, 125, 60, 98, 114, 47, 62]⟩
def wake2 : ByteArray := ⟨#[60, 32, 112, 62]⟩
theorem wake1_scan : Scan wake1 0 none := scan_ascii (by
  have : ∀ i : Fin 13, bat wake1 i.1 < 128 := by decide
  exact fun i hi => this ⟨i, hi⟩) 13 0 rfl
theorem wake2_scan : Scan wake2 0 none := scan_ascii (by
  have : ∀ i : Fin 4, bat wake2 i.1 < 128 := by decide
  exact fun i hi => this ⟨i, hi⟩) 4 0 rfl
def wakeT : List Tk := [⟨1, [], [97], 0⟩, ⟨2, [], [32, 98, 32], 1⟩, ⟨3, [98, 114], [], 8⟩, ⟨7, [], [], 11⟩]
theorem wake1_lex : lexR wake1 none = .ok wakeT := by rfl
theorem wake2_lex : lexR wake2 none = .error (1202, 1) := by rfl

theorem awake_spec (st : Sto) : CallR ap 12 [] st = some (.ret (.bool true), st) := by
  have h1 := lex_spec (by decide) wake1_scan st
  rw [wake1_lex] at h1
  obtain ⟨x, st1, k1, k2, k3⟩ := h1
  have h2 := lex_spec (by decide) wake2_scan st1
  rw [wake2_lex] at h2
  have h2 : CallR ap 7 [.str wake2] st1 = some (.ret (.tup [.nils, .int .i64 1, .int .i64 1202]), st1) := h2
  obtain ⟨id, g, o, a1, a2, _⟩ := k2.at (j := 1) (t := ⟨2, [], [32, 98, 32], 1⟩) rfl
  have a1 : ia 4 x (.int .i64 1) = some (.mp id g o) := a1
  have hag : aggA (fillA (fun i => ([(0, 1), (1, 1), (2, 1), (3, 1)] : List (Nat × Nat))[i]?) [.int .i64 0, .str ⟨#[]⟩, .str ⟨#[]⟩, .int .i64 0] [(0, (.int .i64 2)), (2, (.str ⟨#[32, 98, 32]⟩)), (3, (.int .i64 1))]) = some (.agg (tcell ⟨2, [], [32, 98, 32], 1⟩)) := rfl
  have k1' : CallR ap 7 [.str ⟨#[97, 123, 123, 32, 98, 32, 125, 125, 60, 98, 114, 47, 62]⟩] st = _ := k1
  have h2' : CallR ap 7 [.str ⟨#[60, 32, 112, 62]⟩] st1 = _ := h2
  rw [stencillaw12_awake.call]
  refine ret_keep ?_ rfl rfl k3
  rw [stencillaw12_awake.b_eq]
  simp only [k1', h2', Option.bind_some, Out.on, ext, List.getElem?_cons_zero, List.getElem?_cons_succ, num, asI, if_true, decide_true, cond_true, k2.len, show (wakeT.length) = 4 from rfl, a1, a2, hag, eq_tok]
  rfl
end Go.Proofs.YtigdijdpggjpiaaDoor
