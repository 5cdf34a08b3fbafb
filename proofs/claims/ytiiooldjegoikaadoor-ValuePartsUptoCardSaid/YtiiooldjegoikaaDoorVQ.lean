/- Values in memory: handed back, held against others, spoilt. -/
import Derived.Test.YtiiooldjegoikaaDoorVM
namespace Go.Proofs.YtiiooldjegoikaaDoor
open Go.St Go.Lib
set_option linter.unusedVariables false
set_option linter.unusedSimpArgs false

theorem NamM.strip {st : Sto} {l : List ByteArray} {v : AV} {lo hi : Nat} (h : NamM st l v lo hi) (n : Nat) : v.strip n = v := by
  rcases h with ⟨rfl, rfl | rfl, _⟩ | ⟨id, _, _, _, rfl, _⟩ <;> rfl
theorem RowM.strips {st : Sto} (n : Nat) : ∀ {ts : Va} {row : List AV} {lo hi : Nat}, RowM st ts row lo hi → strips n row = row := by
  intro ts
  induction ts with
  | nil => intro row lo hi h; rw [h.1]; rfl
  | cons h parts rest ihp ihr =>
    rintro row lo hi ⟨a, p, r, m1, m2, rfl, hn, h1, h2, h3⟩
    have hp : p.strip n = p := by rcases h3 with ⟨_, rfl | rfl, _⟩ | ⟨id, prow, _, _, _, rfl, _⟩ <;> rfl
    rw [strips_app, strips_hcells, h2.strip, hp, ihr h1]
/-- What leads to nothing new stands in no memory. -/
theorem RowM.free {st st' : Sto} {n k : Nat} : ∀ {ts : Va} {row : List AV} {lo hi : Nat}, RowM st ts row lo hi → n ≤ lo → olds n row = true → RowM st' ts row k k := by
  intro ts
  induction ts with
  | nil => intro row lo hi h _ _; exact ⟨h.1, Nat.le_refl _⟩
  | cons h parts rest ihp ihr =>
    rintro row lo hi ⟨a, p, r, m1, m2, rfl, hn, h1, h2, h3⟩ hlo ho
    have l1 := h1.le
    have l2 := h2.le
    rw [olds_app, olds_hcells, Bool.and_eq_true, Bool.and_eq_true] at ho
    obtain ⟨⟨ha, hp⟩, hr⟩ := ho
    refine ⟨a, p, r, k, k, rfl, hn, ihr h1 hlo hr, ?_, .inl ?_⟩
    · rcases h2 with ⟨e1, e2, _⟩ | ⟨id, e1, e2, e3, rfl, _⟩
      · exact .inl ⟨e1, e2, Nat.le_refl _⟩
      · simp only [AV.old, decide_eq_true_eq] at ha
        omega
    · rcases h3 with ⟨e1, e2, _⟩ | ⟨id, prow, e1, e2, e3, rfl, _⟩
      · exact ⟨e1, e2, Nat.le_refl _⟩
      · simp only [AV.old, decide_eq_true_eq] at hp
        omega

/-- Handed back by a call. -/
theorem handed {b : Option Res} {v : AV} {row : List AV} {ts : Va} {st S' : Sto} {lo hi : Nat} (h : b = some ⟨.ret v, none, S'⟩) (hs : v.strip st.length = v) (ho : v.old st.length = true → olds st.length row = true) (hr : RowM S' ts row lo hi) (hlo : st.length ≤ lo) (hhi : hi ≤ S'.length) (hk : Keeps st.length st S') :
    ∃ S'' lo' hi', (b.bind fun r => some (gc st (r.out, r.st))) = some (.ret v, S'') ∧ RowM S'' ts row lo' hi' ∧ st.length ≤ lo' ∧ hi' ≤ S''.length ∧ Keeps st.length st S'' := by
  rw [h]
  simp only [Option.bind_some]
  unfold gc
  split
  · rename_i hc
    obtain ⟨c1, c2, c3⟩ := hc
    simp only [Out.val, hs] at c1
    have c2 : st.length ≤ S'.length := c2
    refine ⟨S'.take st.length, st.length, st.length, by simp only [Out.map, hs], hr.free hlo (ho c1), Nat.le_refl _, by rw [List.length_take]; omega, ⟨by rw [List.length_take]; omega, fun i hi => ?_⟩⟩
    rw [List.getElem?_take, if_pos hi]
    exact hk.at_ i hi
  · exact ⟨S', lo, hi, rfl, hr, hlo, hhi, hk⟩

theorem copiedM_spec {h : Hd} {parts : Va} {cs : List AV} (h1 : One h parts cs) (hs : (Va.cons h parts .nil).sz ≤ 1050000) (st : Sto) :
    ∃ row S' lo hi, CallR ap 49 [.agg cs] st = some (.ret (.agg row), S') ∧ RowM S' (.cons h parts .nil) row lo hi ∧ st.length ≤ lo ∧ hi ≤ S'.length ∧ Keeps st.length st S' := by
  have hall := h1.all
  have hl6 : cs.length = 6 := by obtain ⟨a, p, rfl, _⟩ := h1; rfl
  have hrow : Row (.cons h parts .nil) cs := by
    obtain ⟨a, p, rfl, hn, ha, hp⟩ := h1
    refine ⟨a, p, [], by simp, hn, ha, ?_, trivial⟩
    rcases hp with ⟨e1, e2⟩ | e
    · exact .inl ⟨e1, e2⟩
    · exact .inr e
  have ez : [AV.int .i64 0, .bool false, .int .i64 0, .str ⟨#[]⟩, .nils, .nils] = zeroV := rfl
  have e1 : (st ++ [Ob.cells 0 cs 0]).length = st.length + 1 := by simp
  have e2 : ((st ++ [Ob.cells 0 cs 0]) ++ [Ob.cells 0 zeroV 0]).length = st.length + 2 := by simp
  have s1 : sto 6 (((st ++ [Ob.cells 0 cs 0]) ++ [Ob.cells 0 zeroV 0]) ++ [Ob.cells 0 zeroV 0]) (.mp ((st ++ [Ob.cells 0 cs 0]) ++ [Ob.cells 0 zeroV 0]).length 0 0) (.agg cs) = some (((st ++ [Ob.cells 0 cs 0]) ++ [Ob.cells 0 zeroV 0]) ++ [Ob.cells 0 cs 0]) := m_new hall (by rw [hl6]; rfl) rfl
  have l1 : ld true 6 ((st ++ [Ob.cells 0 cs 0]) ++ [Ob.cells 0 zeroV 0]) (.mp st.length 0 0) = some (.agg cs) := m_all (g := 0) (fz := 0) get_mid hl6
  have li : (litS true 1 1 (fillA (fun i => some (i * 1, 1)) [.nilp] [(0, (.mp (st.length + 2) 0 0))]) (((st ++ [Ob.cells 0 cs 0]) ++ [Ob.cells 0 zeroV 0]) ++ [Ob.cells 0 cs 0])) = some (.ms (st.length + 3) 0 0 1 1, st ++ [Ob.cells 0 cs 0, .cells 0 zeroV 0, .cells 0 cs 0, .cells 0 [.mp (st.length + 2) 0 0] 0]) := by
    have : (fillA (fun i => some (i * 1, 1)) [.nilp] [(0, (.mp (st.length + 2) 0 0))]) = some [.mp (st.length + 2) 0 0] := rfl
    rw [this]
    simp [litS]
  obtain ⟨S, hSe⟩ : ∃ S, S = st ++ [Ob.cells 0 cs 0, .cells 0 zeroV 0, .cells 0 cs 0, .cells 0 [.mp (st.length + 2) 0 0] 0] := ⟨_, rfl⟩
  have L := Lay.init st [Ob.cells 0 cs 0, .cells 0 zeroV 0, .cells 0 cs 0, .cells 0 [.mp (st.length + 2) 0 0] 0]
  rw [← hSe] at L
  have hSl : S.length = st.length + 4 := by rw [hSe]; simp
  obtain ⟨g', junk', S1, row, c1, c2, c3, c4, c5, c6⟩ := copM_all (.cons h parts .nil) (st.length + 1) (st.length + 2) (st.length + 2) 0 (st.length + 3) 0 S [] [] [] [] cs (by simpa using L.get (j := 2) rfl) rfl hrow (by rw [hl6]; rfl) (by simpa [Va.len, ptrs] using L.get (j := 3) rfl) (by omega) (by simp; omega) hs
  have c3 : S1[st.length + 2]? = some (.cells 0 row 0) := by simpa using c3
  have hr6 : row.length = 6 := c4.len
  have hrc : row.all AV.isCell = true := by
    obtain ⟨a, p, r, m1, m2, rfl, _, hr, hna, hp⟩ := c4
    rw [hr.1]
    have hpc : p.isCell = true := by rcases hp with ⟨_, rfl | rfl, _⟩ | ⟨id, prow, _, _, _, rfl, _⟩ <;> rfl
    simp only [hcells, List.append_nil, List.all_cons, List.all_nil, hna.cell.1, hpc, Bool.and_true]
    rfl
  have g1 : S1[st.length + 1]? = some (.cells 0 zeroV 0) := by rw [c6 _ (by omega) (by omega) (by omega)]; exact L.get (j := 1) rfl
  have a6 : ld true 6 S1 (.mp (st.length + 2) 0 0) = some (.agg row) := m_all c3 hr6
  have s6 : sto 6 S1 (.mp (st.length + 1) 0 0) (.agg row) = some (S1.set (st.length + 1) (.cells 0 row 0)) := sto_all g1 hrc hr6 rfl
  have a7 : ld true 6 (S1.set (st.length + 1) (.cells 0 row 0)) (.mp (st.length + 1) 0 0) = some (.agg row) := m_all (List.getElem?_set_self (by omega)) hr6
  have hb : value_copied.b (.agg cs) st = some ⟨.ret (.agg row), none, S1.set (st.length + 1) (.cells 0 row 0)⟩ := by
    rw [value_copied.b_eq, agg_cells, if_pos hall, ez]
    simp only [l1, Option.bind_some, s1, e1]
    rw [e2]
    simp only [li, Option.bind_some]
    rw [← hSe]
    refine c1.trans ?_
    rw [value_copied.p111000_eq]
    have hl0 : lenL (.ms (st.length + 3) g' 0 ([] : List AV).length 1) = some 0 := rfl
    simp only [hl0, Option.bind_some, Int.natCast_zero, Int.lt_irrefl, decide_false, cond_false, a6, s6, a7]
  have hkk : Keeps st.length st (S1.set (st.length + 1) (.cells 0 row 0)) := ⟨by rw [List.length_set]; omega, fun i hi => by rw [List.getElem?_set_ne (by omega), c6 i (by omega) (by omega) (by omega)]; exact L.lo i hi⟩
  obtain ⟨S'', lo', hi', d1, d2, d3, d4, d5⟩ := handed (v := .agg row) hb (by simp only [AV.strip, c4.strips]) (fun h => by simpa only [AV.old] using h) (c4.mono (st' := S1.set (st.length + 1) (.cells 0 row 0)) fun j hj _ => List.getElem?_set_ne (by omega)) (by omega) (by rw [List.length_set]; omega) hkk
  exact ⟨row, S'', lo', hi', by rw [value_copied.call]; exact d1, d2, d3, d4, d5⟩

/-! ### Parts, handed out -/
def zeroH : Hd := ⟨0, false, 0, ⟨#[]⟩, []⟩
theorem zero_one : One zeroH .nil zeroV := leaf_one zeroH (by unfold In; simp [zeroH]) rfl
theorem zero_row (st : Sto) (k : Nat) : RowM st (.cons zeroH .nil .nil) zeroV k k := ⟨.nils, .nils, [], k, k, rfl, by unfold In; simp [zeroH], ⟨rfl, Nat.le_refl _⟩, .inl ⟨rfl, .inl rfl, Nat.le_refl _⟩, .inl ⟨rfl, .inl rfl, Nat.le_refl _⟩⟩
def el (o : Option (Hd × Va)) : Hd × Va := o.getD (zeroH, .nil)
def ce (o : Option (Hd × Va)) : Int := if o.isSome then 0 else 506
def indexOf5 (h : Hd) (parts : Va) (i : Int) : Option (Hd × Va) := if h.k = 5 ∧ 0 ≤ i ∧ i < (parts.len : Int) then parts.get i.toNat else none

theorem RowM.all {st : Sto} {h : Hd} {parts : Va} {row : List AV} {lo hi : Nat} (k : RowM st (.cons h parts .nil) row lo hi) : row.all AV.isCell = true := by
  obtain ⟨a, p, r, m1, m2, rfl, _, hr, hna, hp⟩ := k
  rw [hr.1]
  have hpc : p.isCell = true := by rcases hp with ⟨_, rfl | rfl, _⟩ | ⟨id, prow, _, _, _, rfl, _⟩ <;> rfl
  simp only [hcells, List.append_nil, List.all_cons, List.all_nil, hna.cell.1, hpc, Bool.and_true]
  rfl

/-- What Field and Index answer. -/
def PartM (c : Option (Out × Sto)) (st : Sto) (o : Option (Hd × Va)) : Prop := ∃ row S' lo hi, c = some (.ret (.tup [.agg row, .int .i64 (ce o)]), S') ∧ RowM S' (.cons (el o).1 (el o).2 .nil) row lo hi ∧ st.length ≤ lo ∧ hi ≤ S'.length ∧ Keeps st.length st S'

theorem fieldM_spec {h : Hd} {parts : Va} {cs : List AV} (h1 : One h parts cs) (hs : (Va.cons h parts .nil).sz ≤ 1050000) (x : ByteArray) (st : Sto) : PartM (CallR ap 27 [.agg cs, .str x] st) st (fieldOf5 h parts x) := by
  simp only [Va.sz] at hs
  have hall := h1.all
  have hlen := nsz_len h.names
  obtain ⟨a, p, hcs, hIn, ha, hp⟩ := h1
  obtain ⟨S, hSe⟩ : ∃ S, S = (st ++ [Ob.cells 0 cs 0]) ++ [Ob.cells 0 zeroV 0] := ⟨_, rfl⟩
  have e1 : (st ++ [Ob.cells 0 cs 0]).length = st.length + 1 := by simp
  have ez : [AV.int .i64 0, .bool false, .int .i64 0, .str ⟨#[]⟩, .nils, .nils] = zeroV := rfl
  have hS : S[st.length]? = some (.cells 0 cs 0) := by rw [hSe]; exact get_mid
  have hS1 : S[st.length + 1]? = some (.cells 0 zeroV 0) := by rw [hSe, ← e1]; exact get_last
  have hk : Keeps st.length st S := by rw [hSe, List.append_assoc]; exact Keeps.app (Nat.le_refl _)
  have hSl : S.length = st.length + 2 := by rw [hSe]; simp
  have g0 : ld false 1 S (.mp st.length 0 0) = some (.int .i64 h.k) := m_get hS (by rw [hcs]; rfl)
  have g4 : ld false 1 S (.mp st.length 0 4) = some a := m_get hS (by rw [hcs]; rfl)
  have g5 : ld false 1 S (.mp st.length 0 5) = some p := m_get hS (by rw [hcs]; rfl)
  have fail : value_Field.p11 (st.length + 1) S = some ⟨.ret (.tup [.agg zeroV, .int .i64 506]), none, S.set (st.length + 1) (.cells 0 zeroV 0)⟩ := by
    rw [value_Field.p11_eq]
    simp only [zero_agg, Option.bind_some, sto_all hS1 (show zeroV.all AV.isCell = true from rfl) (show zeroV.length = 6 from rfl) rfl, m_all (List.getElem?_set_self (show st.length + 1 < S.length by omega)) (show zeroV.length = 6 from rfl)]
  have hfail : value_Field.b (.agg cs) x st = some ⟨.ret (.tup [.agg zeroV, .int .i64 506]), none, S.set (st.length + 1) (.cells 0 zeroV 0)⟩ → fieldOf5 h parts x = none → PartM (CallR ap 27 [.agg cs, .str x] st) st (fieldOf5 h parts x) := by
    intro hb hf
    rw [hf]
    exact ⟨zeroV, st, st.length, st.length, by rw [value_Field.call]; exact ret_keep hb rfl rfl (hk.trans (Keeps.set (by omega))), zero_row _ _, Nat.le_refl _, Nat.le_refl _, Keeps.refl _ _⟩
  have hb := value_Field.b_eq (.agg cs) x st
  rw [agg_cells, if_pos hall, ez, ← hSe, e1] at hb
  simp only [g0, g4, g5, Option.bind_some, asI, if_true, index_spec ha (by omega), Out.on, hp.len] at hb
  by_cases k6 : h.k = 6
  · simp only [k6, decide_true, cond_true] at hb
    cases hf : findP x h.names with
    | none =>
      have : ¬ ((0 : Int) ≤ posI none 0) := by simp [posI]
      rw [hf] at hb
      simp only [this, decide_false, cond_false, value_Field.p101011_eq, fail] at hb
      exact hfail hb (by simp [fieldOf5, k6, hf])
    | some i =>
      obtain ⟨f1, f2⟩ := findP_lt hf
      rw [hf] at hb
      have e0 : posI (some i) 0 = ((i : Nat) : Int) := by simp [posI]
      have c : (((i : Nat) : Int) < ((parts.len : Nat) : Int)) ↔ i < parts.len := by omega
      have h0 : (0 : Int) ≤ ((i : Nat) : Int) := by omega
      simp only [e0, h0, decide_true, cond_true, c] at hb
      by_cases hi : i < parts.len
      · obtain ⟨e, he⟩ := Va.get_lt hi
        have hfo : fieldOf5 h parts x = some e := by simp [fieldOf5, k6, hf, hi, he]
        obtain ⟨es, hone, hia⟩ := va_get hp he hi
        have hesz := Va.get_sz he
        obtain ⟨ws, S2, lo, hi2, w1, w2, w3, w4, w5⟩ := copiedM_spec hone (by omega) S
        have hl6 : ws.length = 6 := w2.len
        have hle : es.length = 6 := by obtain ⟨a, p, rfl, _⟩ := hone; rfl
        have l6 : ld true 6 S (.ip es) = some (.agg es) := by
          simp only [ld, ldCells, hle, Nat.le_refl, if_true, Option.bind_some]
          rw [← hle, List.take_length]
          rfl
        have hS2 : S2[st.length + 1]? = some (.cells 0 zeroV 0) := by rw [w5.at_ _ (by omega)]; exact hS1
        have hl2 := w5.len
        simp only [hi, decide_true, value_Field.p101011_eq, cond_true, g5, Option.bind_some, hia, l6, w1, Out.on, sto_all hS2 w2.all hl6 rfl, m_all (List.getElem?_set_self (show st.length + 1 < S2.length by omega)) hl6] at hb
        rw [hfo]
        obtain ⟨S'', lo', hi', d1, d2, d3, d4, d5⟩ := handed (st := st) (row := ws) hb (by simp only [AV.strip, strips, w2.strips]) (fun hh => by simpa only [AV.old, olds, Bool.and_true] using hh) (w2.mono (st' := S2.set (st.length + 1) (.cells 0 ws 0)) fun j hj _ => List.getElem?_set_ne (by omega)) (by omega) (by rw [List.length_set]; omega) ⟨by rw [List.length_set]; omega, fun j hj => by rw [List.getElem?_set_ne (by omega), w5.at_ j (by omega)]; exact hk.at_ j hj⟩
        exact ⟨ws, S'', lo', hi', by rw [value_Field.call]; exact d1, d2, d3, d4, d5⟩
      · simp only [hi, decide_false, value_Field.p101011_eq, cond_false, fail] at hb
        exact hfail hb (by simp [fieldOf5, k6, hf, hi])
  · simp only [k6, decide_false, cond_false, fail] at hb
    exact hfail hb (by simp [fieldOf5, k6])

theorem indexM_spec {h : Hd} {parts : Va} {cs : List AV} (h1 : One h parts cs) (hs : (Va.cons h parts .nil).sz ≤ 1050000) (x : Int) (st : Sto) : PartM (CallR ap 28 [.agg cs, .int .i64 x] st) st (indexOf5 h parts x) := by
  simp only [Va.sz] at hs
  have hall := h1.all
  obtain ⟨a, p, hcs, hIn, ha, hp⟩ := h1
  obtain ⟨S, hSe⟩ : ∃ S, S = (st ++ [Ob.cells 0 cs 0]) ++ [Ob.cells 0 zeroV 0] := ⟨_, rfl⟩
  have e1 : (st ++ [Ob.cells 0 cs 0]).length = st.length + 1 := by simp
  have ez : [AV.int .i64 0, .bool false, .int .i64 0, .str ⟨#[]⟩, .nils, .nils] = zeroV := rfl
  have hS : S[st.length]? = some (.cells 0 cs 0) := by rw [hSe]; exact get_mid
  have hS1 : S[st.length + 1]? = some (.cells 0 zeroV 0) := by rw [hSe, ← e1]; exact get_last
  have hk : Keeps st.length st S := by rw [hSe, List.append_assoc]; exact Keeps.app (Nat.le_refl _)
  have hSl : S.length = st.length + 2 := by rw [hSe]; simp
  have g0 : ld false 1 S (.mp st.length 0 0) = some (.int .i64 h.k) := m_get hS (by rw [hcs]; rfl)
  have g5 : ld false 1 S (.mp st.length 0 5) = some p := m_get hS (by rw [hcs]; rfl)
  have fail : value_Index.p101 x st.length (st.length + 1) true S = some ⟨.ret (.tup [.agg zeroV, .int .i64 506]), none, S.set (st.length + 1) (.cells 0 zeroV 0)⟩ := by
    rw [value_Index.p101_eq]
    simp only [cond_true, zero_agg, Option.bind_some, sto_all hS1 (show zeroV.all AV.isCell = true from rfl) (show zeroV.length = 6 from rfl) rfl, m_all (List.getElem?_set_self (show st.length + 1 < S.length by omega)) (show zeroV.length = 6 from rfl)]
  have hfail : value_Index.b (.agg cs) x st = some ⟨.ret (.tup [.agg zeroV, .int .i64 506]), none, S.set (st.length + 1) (.cells 0 zeroV 0)⟩ → indexOf5 h parts x = none → PartM (CallR ap 28 [.agg cs, .int .i64 x] st) st (indexOf5 h parts x) := by
    intro hb hf
    rw [hf]
    exact ⟨zeroV, st, st.length, st.length, by rw [value_Index.call]; exact ret_keep hb rfl rfl (hk.trans (Keeps.set (by omega))), zero_row _ _, Nat.le_refl _, Nat.le_refl _, Keeps.refl _ _⟩
  have hb := value_Index.b_eq (.agg cs) x st
  rw [agg_cells, if_pos hall, ez, ← hSe, e1] at hb
  simp only [g0, g5, Option.bind_some, asI, if_true, hp.len] at hb
  by_cases k5 : h.k = 5
  · simp only [k5, decide_true, Bool.not_true, cond_false] at hb
    by_cases hx : x < 0
    · simp only [hx, decide_true, cond_true, fail] at hb
      exact hfail hb (by unfold indexOf5; rw [if_neg (by omega)])
    · simp only [hx, decide_false, cond_false] at hb
      by_cases hi : ((parts.len : Nat) : Int) ≤ x
      · simp only [hi, decide_true, fail] at hb
        exact hfail hb (by unfold indexOf5; rw [if_neg (by omega)])
      · obtain ⟨i, rfl⟩ : ∃ i : Nat, x = (i : Int) := ⟨x.toNat, by omega⟩
        have hi2 : i < parts.len := by omega
        obtain ⟨e, he⟩ := Va.get_lt hi2
        have hfo : indexOf5 h parts (i : Int) = some e := by unfold indexOf5; rw [if_pos ⟨k5, by omega, by omega⟩]; simpa using he
        obtain ⟨es, hone, hia⟩ := va_get hp he hi2
        have hesz := Va.get_sz he
        obtain ⟨ws, S2, lo, hi3, w1, w2, w3, w4, w5⟩ := copiedM_spec hone (by omega) S
        have hl6 : ws.length = 6 := w2.len
        have hle : es.length = 6 := by obtain ⟨a, p, rfl, _⟩ := hone; rfl
        have l6 : ld true 6 S (.ip es) = some (.agg es) := by
          simp only [ld, ldCells, hle, Nat.le_refl, if_true, Option.bind_some]
          rw [← hle, List.take_length]
          rfl
        have hS2 : S2[st.length + 1]? = some (.cells 0 zeroV 0) := by rw [w5.at_ _ (by omega)]; exact hS1
        have hl2 := w5.len
        simp only [hi, decide_false, value_Index.p101_eq, cond_false, g5, Option.bind_some, hia, l6, w1, Out.on, sto_all hS2 w2.all hl6 rfl, m_all (List.getElem?_set_self (show st.length + 1 < S2.length by omega)) hl6] at hb
        rw [hfo]
        obtain ⟨S'', lo', hi', d1, d2, d3, d4, d5⟩ := handed (st := st) (row := ws) hb (by simp only [AV.strip, strips, w2.strips]) (fun hh => by simpa only [AV.old, olds, Bool.and_true] using hh) (w2.mono (st' := S2.set (st.length + 1) (.cells 0 ws 0)) fun j hj _ => List.getElem?_set_ne (by omega)) (by omega) (by rw [List.length_set]; omega) ⟨by rw [List.length_set]; omega, fun j hj => by rw [List.getElem?_set_ne (by omega), w5.at_ j (by omega)]; exact hk.at_ j hj⟩
        exact ⟨ws, S'', lo', hi', by rw [value_Index.call]; exact d1, d2, d3, d4, d5⟩
  · simp only [k5, decide_false, Bool.not_false, cond_true, fail] at hb
    exact hfail hb (by unfold indexOf5; rw [if_neg (by omega)])
end Go.Proofs.YtiiooldjegoikaaDoor
