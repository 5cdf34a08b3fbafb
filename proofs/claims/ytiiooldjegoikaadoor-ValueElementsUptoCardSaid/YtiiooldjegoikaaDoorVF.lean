/- Values: copies, frozen when they are handed back. -/
import Derived.Test.YtiiooldjegoikaaDoorVM
namespace Go.Proofs.YtiiooldjegoikaaDoor
open Go.St Go.Lib
set_option linter.unusedVariables false
set_option linter.unusedSimpArgs false

def FrzL (st : Sto) (n : Nat) (row row' : List AV) : Prop := row'.length = row.length ∧ ∀ (j : Nat) (a b : AV), row[j]? = some a → row'[j]? = some b → Frz st n a b
theorem FrzL.nil {st : Sto} {n : Nat} : FrzL st n [] [] := ⟨rfl, fun j a b h => by simp at h⟩
theorem FrzL.cons {st : Sto} {n : Nat} {a b : AV} {l m : List AV} (h : Frz st n a b) (k : FrzL st n l m) : FrzL st n (a :: l) (b :: m) := by
  refine ⟨by simp [k.1], fun j x y hx hy => ?_⟩
  cases j with
  | zero => simp at hx hy; rw [← hx, ← hy]; exact h
  | succ j => exact k.2 j x y (by simpa using hx) (by simpa using hy)

/-- A copy's names. -/
def cpN (s : AV) (l : List ByteArray) : AV := match s with | .is _ _ _ => copyN l | _ => .nils
/-- A copy's parts, out of its row. -/
def cpP (s : AV) (len : Nat) (f : List AV → List AV) : AV := match s with | .is srow _ _ => if len = 0 then .is [] 0 .full else .is (f (srow.take (len * 6))) len .no | _ => .nils
/-- The row of copies. -/
def cpR : Va → List AV → List AV
  | .nil, _ => []
  | .cons h parts rest, src => hcells h (cpN (src.getD 4 .nils) h.names) (cpP (src.getD 5 .nils) parts.len (cpR parts)) ++ cpR rest (src.drop 6)
theorem cpR_cons (h : Hd) (parts rest : Va) (sa sp : AV) (sr : List AV) : cpR (.cons h parts rest) (hcells h sa sp ++ sr) = hcells h (cpN sa h.names) (cpP sp parts.len (cpR parts)) ++ cpR rest sr := rfl

theorem NamM.frz {st : Sto} {n : Nat} {s : AV} {l : List ByteArray} {v : AV} {lo hi : Nat} (h : NamM st s l v lo hi) (hn : n ≤ lo) : Frz st n v (cpN s l) := by
  rcases h with ⟨rfl, ⟨rfl, rfl⟩ | ⟨⟨x, y, z, rfl⟩, rfl⟩, _⟩ | ⟨id, h1, h2, h3, ⟨x, y, z, rfl⟩, rfl, h4⟩
  · exact .old _ rfl
  · exact .old _ rfl
  · have : cpN (.is x y z) l = .is (ncells l) l.length .no := by
      show copyN l = _
      unfold copyN
      rw [if_neg (by omega)]
    rw [this]
    refine .ms id 0 0 l.length 1 (ncells l) (ncells l) 0 (by omega) h4 (by rw [ncells_len]; omega) (by rw [ncells_len]; omega) fun j a b ha hb => ?_
    rw [Nat.zero_add] at ha
    rw [ha] at hb
    cases hb
    exact .old _ ((olds_iff n _).1 (olds_ncells n l) a (List.mem_of_getElem? ha))
theorem RowM.frz {st : Sto} {n : Nat} : ∀ {ts : Va} {src row : List AV} {lo hi : Nat}, RowM st ts src row lo hi → n ≤ lo → FrzL st n row (cpR ts src) := by
  intro ts
  induction ts with
  | nil => intro src row lo hi h _; rw [h.1]; exact FrzL.nil
  | cons h parts rest ihp ihr =>
    rintro src row lo hi ⟨sa, sp, sr, a, p, r, m1, m2, rfl, rfl, hIn, h1, h2, h3⟩ hn
    have l1 := h1.le
    have l2 := h2.le
    rw [cpR_cons]
    have hp : Frz st n p (cpP sp parts.len (cpR parts)) := by
      rcases h3 with ⟨e0, ⟨rfl, rfl⟩ | ⟨⟨x, y, z, rfl⟩, rfl⟩, _⟩ | ⟨id, prow, srow, k, tok, e1, e2, e3, rfl, rfl, e4, e5⟩
      · exact .old _ rfl
      · have : cpP (.is x y z) parts.len (cpR parts) = .is [] 0 .full := by simp only [cpP]; rw [if_pos e0]
        rw [this]
        exact .old _ rfl
      · have : cpP (.is srow k tok) parts.len (cpR parts) = .is (cpR parts (srow.take (parts.len * 6))) parts.len .no := by simp only [cpP]; rw [if_neg (by omega)]
        rw [this]
        obtain ⟨f1, f2⟩ := ihp e5 (by omega)
        have hl := e5.len
        exact .ms id 0 0 parts.len 6 prow _ 0 (by omega) e4 (by omega) (by omega) fun j a b ha hb => f2 j a b (by simpa using ha) hb
    exact .cons (.old _ rfl) (.cons (.old _ rfl) (.cons (.old _ rfl) (.cons (.old _ rfl) (.cons (h2.frz (by omega)) (.cons hp (ihr h1 hn))))))

theorem cpN_nam {l : List ByteArray} {a : AV} (h : NamV l a) : NamV l (cpN a l) := by
  rcases h with ⟨h, rfl⟩ | ⟨rest, tok, rfl, _⟩
  · exact .inl ⟨h, rfl⟩
  · exact copyN_nam l
theorem cpR_row : ∀ (ts : Va) (src : List AV), Row ts src → Row ts (cpR ts src) := by
  intro ts
  induction ts with
  | nil => intro src _; trivial
  | cons h parts rest ihp ihr =>
    rintro src ⟨a, p, r, rfl, hIn, ha, hp, hr⟩
    rw [cpR_cons]
    refine ⟨_, _, _, rfl, hIn, cpN_nam ha, ?_, ihr r hr⟩
    rcases hp with ⟨h0, rfl⟩ | ⟨prow, tok, rfl, hrow⟩
    · exact .inl ⟨h0, rfl⟩
    · by_cases h0 : parts.len = 0
      · obtain rfl := len_nil h0
        exact .inr ⟨[], .full, rfl, trivial⟩
      · refine .inr ⟨cpR parts (prow.take (parts.len * 6)), .no, ?_, ihp _ (row_take parts prow hrow).2⟩
        simp only [cpP]; rw [if_neg h0]
theorem cpR_keep : ∀ (ts : Va) (src : List AV) (n : Nat), strips n (cpR ts src) = cpR ts src ∧ olds n (cpR ts src) = true := by
  intro ts
  induction ts with
  | nil => intro src n; exact ⟨rfl, rfl⟩
  | cons h parts rest ihp ihr =>
    intro src n
    have ha : ∀ s, (cpN s h.names).strip n = cpN s h.names ∧ (cpN s h.names).old n = true := fun s => by
      unfold cpN
      split
      · exact ⟨strip_copyN _ _, old_copyN _ _⟩
      · exact ⟨rfl, rfl⟩
    have hp : ∀ s, (cpP s parts.len (cpR parts)).strip n = cpP s parts.len (cpR parts) ∧ (cpP s parts.len (cpR parts)).old n = true := fun s => by
      unfold cpP
      split
      · split
        · exact ⟨rfl, rfl⟩
        · rename_i srow _ _ _
          obtain ⟨k1, k2⟩ := ihp (srow.take (parts.len * 6)) n
          exact ⟨by simp only [AV.strip, k1, Tok.strip], by simp only [AV.old, k2, Tok.old, Bool.and_self]⟩
      · exact ⟨rfl, rfl⟩
    obtain ⟨r1, r2⟩ := ihr (src.drop 6) n
    constructor
    · simp only [cpR, strips_app, strips_hcells, (ha _).1, (hp _).1, r1]
    · simp only [cpR, olds_app, olds_hcells, (ha _).2, (hp _).2, r2, Bool.and_self]

theorem RowM.all {st : Sto} {h : Hd} {parts : Va} {src row : List AV} {lo hi : Nat} (k : RowM st (.cons h parts .nil) src row lo hi) : row.all AV.isCell = true := by
  obtain ⟨sa, sp, sr, a, p, r, m1, m2, rfl, rfl, _, hr, hna, hp⟩ := k
  rw [hr.1]
  have hpc : p.isCell = true := by rcases hp with ⟨_, ⟨_, rfl⟩ | ⟨_, rfl⟩, _⟩ | ⟨id, prow, _, _, _, _, _, _, _, rfl, _⟩ <;> rfl
  simp only [hcells, List.append_nil, List.all_cons, List.all_nil, hna.cell.1, hpc, Bool.and_true]
  rfl

/-- One value's copy. -/
def cpC (h : Hd) (parts : Va) (cs : List AV) : List AV := cpR (.cons h parts .nil) cs
theorem one_row {h : Hd} {parts : Va} {cs : List AV} (h1 : One h parts cs) : Row (.cons h parts .nil) cs := by
  obtain ⟨a, p, rfl, hn, ha, hp⟩ := h1
  refine ⟨a, p, [], by simp, hn, ha, ?_, trivial⟩
  rcases hp with ⟨e1, e2⟩ | e
  · exact .inl ⟨e1, e2⟩
  · exact .inr e
theorem cpC_one {h : Hd} {parts : Va} {cs : List AV} (h1 : One h parts cs) : One h parts (cpC h parts cs) := by
  have hr := cpR_row _ _ (one_row h1)
  obtain ⟨a, p, rfl, hn, ha, hp⟩ := h1
  obtain ⟨a2, p2, r2, e, hn2, ha2, hp2, _⟩ := hr
  have hl : (cpR (.cons h parts .nil) (hcells h a p)).length = 6 := rfl
  have h2 : r2 = [] := by
    rw [e] at hl
    simp only [List.length_append, hcells, List.length_cons, List.length_nil] at hl
    exact List.eq_nil_of_length_eq_zero (by omega)
  subst h2
  refine ⟨a2, p2, by unfold cpC; rw [e, List.append_nil], hn2, ha2, ?_⟩
  rcases hp2 with ⟨e1, e2⟩ | e
  · exact .inl ⟨e1, e2⟩
  · exact .inr e

theorem copiedF_spec {h : Hd} {parts : Va} {cs : List AV} (h1 : One h parts cs) (hs : (Va.cons h parts .nil).sz ≤ 1050000) (st : Sto) :
    CallR ap 49 [.agg cs] st = some (.ret (.agg (cpC h parts cs)), st) := by
  have hall := h1.all
  have hl6 : cs.length = 6 := by obtain ⟨a, p, rfl, _⟩ := h1; rfl
  have hrow := one_row h1
  have ez : [AV.int .i64 0, .bool false, .int .i64 0, .str ⟨#[]⟩, .nils, .nils] = zeroV := rfl
  have e1 : (st ++ [Ob.cells 0 cs 0]).length = st.length + 1 := by simp
  have e2 : ((st ++ [Ob.cells 0 cs 0]) ++ [Ob.cells 0 zeroV 0]).length = st.length + 2 := by simp
  have s1 : sto 6 (((st ++ [Ob.cells 0 cs 0]) ++ [Ob.cells 0 zeroV 0]) ++ [Ob.cells 0 zeroV 0]) (.mp ((st ++ [Ob.cells 0 cs 0]) ++ [Ob.cells 0 zeroV 0]).length 0 0) (.agg cs) = some (((st ++ [Ob.cells 0 cs 0]) ++ [Ob.cells 0 zeroV 0]) ++ [Ob.cells 0 cs 0]) := m_new hall (by rw [hl6]; rfl) rfl
  have l1 : ld true 6 ((st ++ [Ob.cells 0 cs 0]) ++ [Ob.cells 0 zeroV 0]) (.mp st.length 0 0) = some (.agg cs) := m_all (g := 0) (fz := 0) get_mid hl6
  have li : (litS true 1 1 (fillA (fun i => some (i * 1, 1)) [.nilp] [(0, (.mp (st.length + 2) 0 0))]) (((st ++ [Ob.cells 0 cs 0]) ++ [Ob.cells 0 zeroV 0]) ++ [Ob.cells 0 cs 0])) = some (.ms (st.length + 3) 0 0 1 1, st ++ [Ob.cells 0 cs 0, .cells 0 zeroV 0, .cells 0 cs 0, .cells 0 [.mp (st.length + 2) 0 0] 0]) := by
    have : (fillA (fun i => some (i * 1, 1)) [.nilp] [(0, (.mp (st.length + 2) 0 0))]) = some [.mp (st.length + 2) 0 0] := rfl
    rw [this]
    simp [litS]
  obtain ⟨S, hSe⟩ : ∃ S, S = st ++ [Ob.cells 0 cs 0, .cells 0 zeroV 0, .cells 0 cs 0, .cells 0 [.mp (st.length + 2) 0 0] 0] := ⟨_, rfl⟩
  have L := Lay.init st [Ob.cells 0 cs 0, .cells 0 zeroV 0, .cells 0 cs 0, .cells 0 [.mp (st.length + 2) 0 0] 0]
  rw [← hSe] at L
  have hSl : S.length = st.length + 4 := by rw [hSe]; simp
  obtain ⟨g', junk', S1, row, c1, c2, c3, c4, c5, c6⟩ := copM_all (.cons h parts .nil) (st.length + 1) (st.length + 2) (st.length + 2) 0 (st.length + 3) 0 S [] [] [] [] cs (by simpa using L.get (j := 2) rfl) rfl hrow (by rw [hl6]; rfl) (by simpa [Va.len, ptrs] using L.get (j := 3) rfl) (by omega) (by simp; omega) hs
  have c3 : S1[st.length + 2]? = some (.cells 0 row 0) := by simpa using c3
  have hr6 : row.length = 6 := c4.len
  have hrc : row.all AV.isCell = true := c4.all
  have g1 : S1[st.length + 1]? = some (.cells 0 zeroV 0) := by rw [c6 _ (by omega) (by omega) (by omega)]; exact L.get (j := 1) rfl
  have a6 : ld true 6 S1 (.mp (st.length + 2) 0 0) = some (.agg row) := m_all c3 hr6
  have s6 : sto 6 S1 (.mp (st.length + 1) 0 0) (.agg row) = some (S1.set (st.length + 1) (.cells 0 row 0)) := sto_all g1 hrc hr6 rfl
  have a7 : ld true 6 (S1.set (st.length + 1) (.cells 0 row 0)) (.mp (st.length + 1) 0 0) = some (.agg row) := m_all (List.getElem?_set_self (by omega)) hr6
  have hb : value_copied.b (.agg cs) st = some ⟨.ret (.agg row), none, S1.set (st.length + 1) (.cells 0 row 0)⟩ := by
    rw [value_copied.b_eq, agg_cells, if_pos hall, ez]
    simp only [l1, Option.bind_some, s1, e1]
    rw [e2]
    simp only [li, Option.bind_some]
    rw [← hSe]
    refine c1.trans ?_
    rw [value_copied.p111000_eq]
    have hl0 : lenL (.ms (st.length + 3) g' 0 ([] : List AV).length 1) = some 0 := rfl
    simp only [hl0, Option.bind_some, Int.natCast_zero, Int.lt_irrefl, decide_false, cond_false, a6, s6, a7]
  have hkk : Keeps st.length st (S1.set (st.length + 1) (.cells 0 row 0)) := ⟨by rw [List.length_set]; omega, fun i hi => by rw [List.getElem?_set_ne (by omega), c6 i (by omega) (by omega) (by omega)]; exact L.lo i hi⟩
  have hm := c4.mono (st' := S1.set (st.length + 1) (.cells 0 row 0)) fun j hj _ => List.getElem?_set_ne (by omega)
  obtain ⟨f1, f2⟩ := hm.frz (n := st.length) (by omega)
  rw [value_copied.call]
  exact ret_frz hb (.agg row _ f1 f2) hkk

/-! ### A part, where there is one -/
theorem fieldF_spec {h : Hd} {parts : Va} {cs es : List AV} {e : Hd × Va} {a p : AV} (hcs : cs = hcells h a p) (h1 : One h parts cs) (hs : (Va.cons h parts .nil).sz ≤ 1050000) {x : ByteArray} {i : Nat} (k6 : h.k = 6) (hf : findP x h.names = some i) (hi : i < parts.len) (he : parts.get i = some e) (hone : One e.1 e.2 es) (hia : ia 6 p (.int .i64 ((i : Nat) : Int)) = some (.ip es)) (st : Sto) :
    CallR ap 27 [.agg cs, .str x] st = some (.ret (.tup [.agg (cpC e.1 e.2 es), .int .i64 0]), st) := by
  simp only [Va.sz] at hs
  have hall := h1.all
  have hlen := nsz_len h.names
  obtain ⟨a', p', hcs', hIn, ha, hp⟩ := h1
  rw [hcs] at hcs'
  simp only [hcells, List.cons.injEq, and_true, true_and] at hcs'
  obtain ⟨rfl, rfl⟩ := hcs'
  obtain ⟨S, hSe⟩ : ∃ S, S = (st ++ [Ob.cells 0 cs 0]) ++ [Ob.cells 0 zeroV 0] := ⟨_, rfl⟩
  have e1 : (st ++ [Ob.cells 0 cs 0]).length = st.length + 1 := by simp
  have ez : [AV.int .i64 0, .bool false, .int .i64 0, .str ⟨#[]⟩, .nils, .nils] = zeroV := rfl
  have hS : S[st.length]? = some (.cells 0 cs 0) := by rw [hSe]; exact get_mid
  have hS1 : S[st.length + 1]? = some (.cells 0 zeroV 0) := by rw [hSe, ← e1]; exact get_last
  have hk : Keeps st.length st S := by rw [hSe, List.append_assoc]; exact Keeps.app (Nat.le_refl _)
  have hSl : S.length = st.length + 2 := by rw [hSe]; simp
  have g0 : ld false 1 S (.mp st.length 0 0) = some (.int .i64 h.k) := m_get hS (by rw [hcs]; rfl)
  have g4 : ld false 1 S (.mp st.length 0 4) = some a := m_get hS (by rw [hcs]; rfl)
  have g5 : ld false 1 S (.mp st.length 0 5) = some p := m_get hS (by rw [hcs]; rfl)
  have hb := value_Field.b_eq (.agg cs) x st
  rw [agg_cells, if_pos hall, ez, ← hSe, e1] at hb
  have e0 : posI (some i) 0 = ((i : Nat) : Int) := by simp [posI]
  have c : (((i : Nat) : Int) < ((parts.len : Nat) : Int)) ↔ i < parts.len := by omega
  have h0 : (0 : Int) ≤ ((i : Nat) : Int) := by omega
  simp only [g0, g4, g5, Option.bind_some, asI, if_true, index_spec ha (by omega), Out.on, hp.len, k6, decide_true, cond_true, hf, e0, h0, c] at hb
  have hesz := Va.get_sz he
  have w1 := copiedF_spec hone (by omega) S
  have w2 := cpC_one hone
  have hl6 : (cpC e.1 e.2 es).length = 6 := by obtain ⟨a, p, e, _⟩ := w2; rw [e]; rfl
  have hle : es.length = 6 := by obtain ⟨a, p, rfl, _⟩ := hone; rfl
  have l6 : ld true 6 S (.ip es) = some (.agg es) := by
    simp only [ld, ldCells, hle, Nat.le_refl, if_true, Option.bind_some]
    rw [← hle, List.take_length]
    rfl
  simp only [hi, decide_true, value_Field.p101011_eq, cond_true, g5, Option.bind_some, hia, l6, w1, Out.on, sto_all hS1 w2.all hl6 rfl, m_all (List.getElem?_set_self (show st.length + 1 < S.length by omega)) hl6] at hb
  rw [value_Field.call]
  have kp := cpR_keep (.cons e.1 e.2 .nil) es st.length
  exact ret_keep hb (by simp only [AV.strip, strips]; rw [show strips st.length (cpC e.1 e.2 es) = cpC e.1 e.2 es from kp.1]) (by simp only [AV.old, olds]; rw [show olds st.length (cpC e.1 e.2 es) = true from kp.2]; rfl) (hk.trans (Keeps.set (by omega)))

theorem indexF_spec {h : Hd} {parts : Va} {cs es : List AV} {e : Hd × Va} {a p : AV} (hcs : cs = hcells h a p) (h1 : One h parts cs) (hs : (Va.cons h parts .nil).sz ≤ 1050000) {i : Nat} (k5 : h.k = 5) (hi : i < parts.len) (he : parts.get i = some e) (hone : One e.1 e.2 es) (hia : ia 6 p (.int .i64 ((i : Nat) : Int)) = some (.ip es)) (st : Sto) :
    CallR ap 28 [.agg cs, .int .i64 ((i : Nat) : Int)] st = some (.ret (.tup [.agg (cpC e.1 e.2 es), .int .i64 0]), st) := by
  simp only [Va.sz] at hs
  have hall := h1.all
  obtain ⟨a', p', hcs', hIn, ha, hp⟩ := h1
  rw [hcs] at hcs'
  simp only [hcells, List.cons.injEq, and_true, true_and] at hcs'
  obtain ⟨rfl, rfl⟩ := hcs'
  obtain ⟨S, hSe⟩ : ∃ S, S = (st ++ [Ob.cells 0 cs 0]) ++ [Ob.cells 0 zeroV 0] := ⟨_, rfl⟩
  have e1 : (st ++ [Ob.cells 0 cs 0]).length = st.length + 1 := by simp
  have ez : [AV.int .i64 0, .bool false, .int .i64 0, .str ⟨#[]⟩, .nils, .nils] = zeroV := rfl
  have hS : S[st.length]? = some (.cells 0 cs 0) := by rw [hSe]; exact get_mid
  have hS1 : S[st.length + 1]? = some (.cells 0 zeroV 0) := by rw [hSe, ← e1]; exact get_last
  have hk : Keeps st.length st S := by rw [hSe, List.append_assoc]; exact Keeps.app (Nat.le_refl _)
  have hSl : S.length = st.length + 2 := by rw [hSe]; simp
  have g0 : ld false 1 S (.mp st.length 0 0) = some (.int .i64 h.k) := m_get hS (by rw [hcs]; rfl)
  have g5 : ld false 1 S (.mp st.length 0 5) = some p := m_get hS (by rw [hcs]; rfl)
  have hb := value_Index.b_eq (.agg cs) ((i : Nat) : Int) st
  rw [agg_cells, if_pos hall, ez, ← hSe, e1] at hb
  have hx : ¬ (((i : Nat) : Int) < 0) := by omega
  have hi2 : ¬ (((parts.len : Nat) : Int) ≤ ((i : Nat) : Int)) := by omega
  simp only [g0, g5, Option.bind_some, asI, if_true, hp.len, k5, decide_true, Bool.not_true, cond_false, hx, hi2, decide_false] at hb
  have hesz := Va.get_sz he
  have w1 := copiedF_spec hone (by omega) S
  have w2 := cpC_one hone
  have hl6 : (cpC e.1 e.2 es).length = 6 := by obtain ⟨a, p, e, _⟩ := w2; rw [e]; rfl
  have hle : es.length = 6 := by obtain ⟨a, p, rfl, _⟩ := hone; rfl
  have l6 : ld true 6 S (.ip es) = some (.agg es) := by
    simp only [ld, ldCells, hle, Nat.le_refl, if_true, Option.bind_some]
    rw [← hle, List.take_length]
    rfl
  simp only [value_Index.p101_eq, cond_false, g5, Option.bind_some, hia, l6, w1, Out.on, sto_all hS1 w2.all hl6 rfl, m_all (List.getElem?_set_self (show st.length + 1 < S.length by omega)) hl6] at hb
  rw [value_Index.call]
  have kp := cpR_keep (.cons e.1 e.2 .nil) es st.length
  exact ret_keep hb (by simp only [AV.strip, strips]; rw [show strips st.length (cpC e.1 e.2 es) = cpC e.1 e.2 es from kp.1]) (by simp only [AV.old, olds]; rw [show olds st.length (cpC e.1 e.2 es) = true from kp.2]; rfl) (hk.trans (Keeps.set (by omega)))
end Go.Proofs.YtiiooldjegoikaaDoor
