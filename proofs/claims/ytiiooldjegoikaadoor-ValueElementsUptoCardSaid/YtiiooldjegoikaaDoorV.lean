/- Values: what they are to the machine; one alone; going through all. -/
import Derived.Test.YtiiooldjegoikaaDoorN
import Derived.Test.YtiiooldjegoikaaDoorX
import Derived.Test.YtiiooldjegoikaaDoorStS22
namespace Go.Proofs.YtiiooldjegoikaaDoor
open Go.St Go.Lib
set_option linter.unusedVariables false
set_option linter.unusedSimpArgs false

/-- A value but for its parts. -/
structure Hd where
  k : Int
  b : Bool
  n : Int
  s : ByteArray
  names : List ByteArray

/-- Values in row: the first, its parts, the others. -/
inductive Va where
  | nil
  | cons (h : Hd) (parts rest : Va)

def Va.len : Va → Nat
  | .nil => 0
  | .cons _ _ r => r.len + 1
/-- At least as much as there are bytes and cells. -/
def Va.sz : Va → Nat
  | .nil => 0
  | .cons h parts rest => h.s.size + nsz h.names + parts.sz + rest.sz + 6

def hcells (h : Hd) (a p : AV) : List AV := [.int .i64 h.k, .bool h.b, .int .i64 h.n, .str h.s, a, p]

def Row : Va → List AV → Prop
  | .nil, _ => True
  | .cons h parts rest, row => ∃ a p r, row = hcells h a p ++ r ∧ In h.n ∧ NamV h.names a ∧ ((parts.len = 0 ∧ p = .nils) ∨ ∃ prow tok, p = .is prow parts.len tok ∧ Row parts prow) ∧ Row rest r

def VaV (ts : Va) (v : AV) : Prop := (ts.len = 0 ∧ v = .nils) ∨ ∃ row tok, v = .is row ts.len tok ∧ Row ts row

theorem len_nil {ts : Va} (h : ts.len = 0) : ts = .nil := by
  cases ts with
  | nil => rfl
  | cons => simp [Va.len] at h
theorem len_sz (ts : Va) : 6 * ts.len ≤ ts.sz := by
  induction ts with
  | nil => simp [Va.len, Va.sz]
  | cons h parts rest ihk ihr => simp only [Va.len, Va.sz]; omega
theorem VaV.len {ts : Va} {v : AV} (h : VaV ts v) : lenL v = some ts.len := by
  rcases h with ⟨h, rfl⟩ | ⟨row, tok, rfl, _⟩
  · rw [h]; rfl
  · rfl
theorem VaV.cell {ts : Va} {v : AV} (h : VaV ts v) : v.isCell = true := by
  rcases h with ⟨_, rfl⟩ | ⟨_, _, rfl, _⟩ <;> rfl

/-- The cells of a value. -/
def One (h : Hd) (parts : Va) (cs : List AV) : Prop := ∃ a p, cs = hcells h a p ∧ In h.n ∧ NamV h.names a ∧ VaV parts p

theorem One.all {h : Hd} {parts : Va} {cs : List AV} (k : One h parts cs) : cs.all AV.isCell = true := by
  obtain ⟨a, p, rfl, _, ha, hp⟩ := k
  simp only [hcells, List.all_cons, List.all_nil, ha.cell, hp.cell, Bool.and_true]
  rfl

/-- The i-th value. -/
theorem row_at {h : Hd} {parts rest : Va} {row : List AV} {i : Nat} (k : Row (.cons h parts rest) (row.drop (i * 6))) :
    ∃ a p, In h.n ∧ NamV h.names a ∧ VaV parts p ∧ Row rest (row.drop ((i + 1) * 6)) ∧ row.length ≥ (i + 1) * 6 ∧ ∀ n tok, i < n → ia 6 (.is row n tok) (.int .i64 (i : Int)) = some (.ip (hcells h a p)) := by
  obtain ⟨a, p, r, h1, h0, h2, h3, h4⟩ := k
  have hl : (row.drop (i * 6)).length = r.length + 6 := by rw [h1]; simp [hcells]
  rw [List.length_drop] at hl
  have hd : row.drop ((i + 1) * 6) = r := by
    rw [show (i + 1) * 6 = i * 6 + 6 by omega, ← List.drop_drop, h1]
    rfl
  refine ⟨a, p, h0, h2, ?_, by rw [hd]; exact h4, by omega, fun n tok hn => ?_⟩
  · rcases h3 with ⟨h3, h5⟩ | h3
    · exact .inl ⟨h3, h5⟩
    · exact .inr h3
  · have hc : (i + 1) * 6 ≤ row.length := by omega
    simp only [ia, idx_nat hn, Option.bind_some, hc, if_true]
    rw [h1]
    rfl

theorem m_get {st : Sto} {id g fz n : Nat} {cs : List AV} {x : AV} (h : st[id]? = some (.cells g cs fz)) (hx : cs[n]? = some x) : ld false 1 st (.mp id g n) = some x := by
  have hl : n < cs.length := (List.getElem?_eq_some_iff.1 hx).1
  have h1 : n + 1 ≤ cs.length := hl
  have h2 : (cs.drop n).take 1 = [x] := by
    rw [List.drop_eq_getElem_cons hl]
    simp only [List.take_succ_cons, List.take_zero]
    rw [(List.getElem?_eq_some_iff.1 hx).2]
  simp only [ld, ldCells, h, h1, true_and, if_true, Option.bind_some, h2]
  rfl
theorem m_all {st : Sto} {id g fz n : Nat} {cs : List AV} (h : st[id]? = some (.cells g cs fz)) (hn : cs.length = n) : ld true n st (.mp id g 0) = some (.agg cs) := by
  subst hn
  simp only [ld, ldCells, h, Nat.zero_add, Nat.le_refl, true_and, if_true, Option.bind_some, List.drop_zero, List.take_length]
  rfl
theorem m_new {st : Sto} {cs cs' : List AV} (hc : cs'.all AV.isCell = true) (hl : cs'.length = cs.length) {n : Nat} (hn : cs.length = n) : sto n (st ++ [Ob.cells 0 cs 0]) (.mp st.length 0 0) (.agg cs') = some (st ++ [Ob.cells 0 cs' 0]) := by
  have h1 : (st ++ [Ob.cells 0 cs 0])[st.length]? = some (.cells 0 cs 0) := by simp
  have h2 : cs'.length ≤ cs.length := by omega
  have h3 : (AV.cells (.agg cs')).length = n := by show cs'.length = n; omega
  have h4 : ((AV.agg cs').cells) = cs' := rfl
  unfold sto
  rw [if_pos h3, h4]
  simp only [stCells, h1, Nat.zero_add, h2, hc, Nat.le_refl, true_and, and_self, if_true, splice, List.take_zero, List.nil_append]
  rw [List.drop_of_length_le (by omega)]
  simp

/-- A pointer to a value: into a row, or to a variable that is older than n. -/
def Pt (n : Nat) (st : Sto) (v : AV) (cs : List AV) : Prop := cs.length = 6 ∧ (v = .ip cs ∨ ∃ id, id < n ∧ v = .mp id 0 0 ∧ st[id]? = some (.cells 0 cs 0))
theorem Pt.mono {n : Nat} {st st' : Sto} {v : AV} {cs : List AV} (h : Pt n st v cs) (k : Keeps n st st') : Pt n st' v cs := by
  obtain ⟨hl, h⟩ := h
  rcases h with rfl | ⟨id, h1, rfl, h2⟩
  · exact ⟨hl, .inl rfl⟩
  · exact ⟨hl, .inr ⟨id, h1, rfl, by rw [k.at_ id h1]; exact h2⟩⟩
theorem Pt.nk {n : Nat} {st : Sto} {v : AV} {cs : List AV} (h : Pt n st v cs) : nilCk v = some v := by
  rcases h.2 with rfl | ⟨id, h1, rfl, h2⟩ <;> rfl
theorem Pt.get {n : Nat} {st : Sto} {v : AV} {cs : List AV} (h : Pt n st v cs) {R : Type} (j : Nat) (c : AV) (hj : cs[j]? = some c) (F : AV → Option R) : ((fa j 1 v).bind fun q => (ld false 1 st q).bind F) = F c := by
  have hl : j < cs.length := (List.getElem?_eq_some_iff.1 hj).1
  rcases h.2 with rfl | ⟨id, h1, rfl, h2⟩
  · have h1 : j + 1 ≤ cs.length := hl
    simp only [fa, h1, if_true, Option.bind_some]
    have h2 : (cs.drop j).take 1 = [c] := by
      rw [List.drop_eq_getElem_cons hl]
      simp only [List.take_succ_cons, List.take_zero]
      rw [(List.getElem?_eq_some_iff.1 hj).2]
    rw [h2]
    rfl
  · simp only [fa, Option.bind_some, Nat.zero_add, m_get h2 hj]

/-! ### A value alone -/
def cntM (l : List ByteArray) : List (AV × AV) := l.map fun x => (.str x, .int .i64 1)
theorem keyNo_none {x : ByteArray} : ∀ (l : List ByteArray) (i : Nat), x ∉ l → keyNo (.str x) (cntM l) i = some none := by
  intro l
  induction l with
  | nil => intro i _; rfl
  | cons y r ih =>
    intro i h
    have h1 : ¬ x = y := fun e => h (by simp [e])
    have h2 := ih (i + 1) (fun e => h (by simp [e]))
    simp only [cntM, List.map_cons, keyNo, eqCell, Option.bind_some, h1, decide_false, if_false, Bool.false_eq_true] at h2 ⊢
    exact h2
theorem keyNo_some {x : ByteArray} : ∀ (l : List ByteArray) (i : Nat), x ∈ l → ∃ j, keyNo (.str x) (cntM l) i = some (some (i + j, .int .i64 1)) ∧ ∀ v, keyNo (.str x) ((cntM l).set j (.str x, v)) i = some (some (i + j, v)) := by
  intro l
  induction l with
  | nil => intro i h; simp at h
  | cons y r ih =>
    intro i h
    by_cases h1 : x = y
    · subst h1
      exact ⟨0, by simp [cntM, keyNo, eqCell], fun v => by simp [cntM, keyNo, eqCell]⟩
    · obtain ⟨j, k1, k2⟩ := ih (i + 1) (by rcases List.mem_cons.1 h with h | h
                                           · exact absurd h h1
                                           · exact h)
      refine ⟨j + 1, ?_, fun v => ?_⟩
      · simp only [cntM, List.map_cons, keyNo, eqCell, Option.bind_some, h1, decide_false, if_false, Bool.false_eq_true] at k1 ⊢
        rw [k1, show i + 1 + j = i + (j + 1) by omega]
      · have k2 := k2 v
        simp only [cntM, List.map_cons, List.set_cons_succ, keyNo, eqCell, Option.bind_some, h1, decide_false, if_false, Bool.false_eq_true] at k2 ⊢
        rw [k2, show i + 1 + j = i + (j + 1) by omega]

theorem text_ok (s : ByteArray) (hs : s.size < 9223372036854775800) (st : Sto) : CallR ap 55 [.str s] st = some (.ret (.bool (okT s)), st) := by
  obtain ⟨r, hr⟩ := scan_ex s s.size 0 (by omega) (by omega)
  rw [value_text.call]
  refine ret_keep ?_ rfl rfl (Keeps.refl _ _)
  rw [value_text.b_eq]
  unfold okT
  cases r with
  | none =>
    have e : (((ByteArray.size s : Nat) : Int) ≤ 4096) = (s.size ≤ 4096) := propext ⟨fun h => by omega, fun h => by omega⟩
    simp only [valid_spec hs hr, validOut, Option.bind_some, Out.on, ext, List.getElem?_cons_zero, List.getElem?_cons_succ, asI, if_true, decide_true, cond_true, e, hr, Bool.true_and]
  | some a =>
    have e : ¬ Scan s 0 none := fun h => by have := scan_det h hr; cases this
    simp only [valid_spec hs hr, validOut, Option.bind_some, Out.on, ext, List.getElem?_cons_zero, List.getElem?_cons_succ, asI, if_true, show decide ((300 : Int) = 0) = false from rfl, cond_false, e, decide_false, Bool.false_and]

open Classical in
noncomputable def namesB : List ByteArray → List ByteArray → Bool
  | _, [] => true
  | pre, x :: r => !decide (x ∈ pre) && (okT x && namesB (pre ++ [x]) r)

open Classical in
theorem namesB_eq : ∀ (suf pre : List ByteArray), pre.Nodup → namesB pre suf = (suf.all okT && decide (pre ++ suf).Nodup) := by
  intro suf
  induction suf with
  | nil => intro pre h; simp [namesB, h]
  | cons x r ih =>
    intro pre h
    simp only [namesB, List.all_cons]
    by_cases hx : x ∈ pre
    · have : ¬ (pre ++ x :: r).Nodup := by
        intro hn
        exact (List.nodup_append.1 hn).2.2 x hx x (by simp) rfl
      simp only [hx, this, decide_true, decide_false, Bool.not_true, Bool.false_and, Bool.and_false]
    · have : (pre ++ [x]).Nodup := by
        rw [List.nodup_append]
        refine ⟨h, by simp, fun a ha b hb => ?_⟩
        simp at hb
        subst hb
        exact fun e => hx (e ▸ ha)
      rw [ih _ this]
      simp only [hx, decide_false, Bool.not_false, Bool.true_and, List.append_assoc, List.singleton_append, Bool.and_assoc]

theorem key_td9 (x : ByteArray) : keyOk td9 (.str x) = true := rfl
theorem pk0 : pack false [AV.int .i64 0] = some (.int .i64 0) := rfl

theorem names_loop {cs : List AV} {v : AV} {h : Hd} {a p : AV} {st : Sto} (hcs : cs = hcells h a p) (hp : Pt st.length st v cs) (ha : NamV h.names a) (hs : nsz h.names ≤ 1050000) (hss : h.s.size ≤ 1050000) :
    ∀ (suf pre : List ByteArray), h.names = pre ++ suf → ∃ es, value_formed.p1110100 v (.mr st.length) a ((h.names.length : Nat) : Int) ((pre.length : Nat) : Int) (st ++ [.map (cntM pre)]) = some ⟨.ret (.bool (namesB pre suf && okT h.s)), none, st ++ [.map es]⟩ := by
  intro suf
  have hlen := nsz_len h.names
  have hpe : ∀ es, Pt st.length (st ++ [.map es]) v cs := fun es => hp.mono (Keeps.app (Nat.le_refl _))
  induction suf with
  | nil =>
    intro pre hpre
    rw [List.append_nil] at hpre
    refine ⟨cntM pre, ?_⟩
    rw [value_formed.p1110100_eq, hpre]
    have hg := (hpe (cntM pre)).get (R := Res) 3 (.str h.s) (by rw [hcs]; rfl)
    simp only [Int.lt_irrefl, decide_false, cond_false, hp.nk, Option.bind_some, hg, text_ok h.s (by omega), Out.on, namesB, Bool.true_and]
  | cons x r ih =>
    intro pre hpre
    have hx : x ∈ h.names := by rw [hpre]; simp
    have hxs := nsz_mem hx
    have hlt : (((pre.length : Nat) : Int) < ((h.names.length : Nat) : Int)) := by rw [hpre]; simp; omega
    have hw : IntKind.wrap .i64 (((pre.length : Nat) : Int) + 1) = (((pre ++ [x]).length : Nat) : Int) := by
      rw [w64 (pre.length + 1) (by omega) (by have := congrArg List.length hpre; simp at this; omega)]
      simp
    have hia := nam_at (pre := pre) (suf := r) (x := x) (v := a) (by rw [← hpre]; exact ha) (i := ((pre.length : Nat) : Int)) rfl
    have hget : ∀ es : List (AV × AV), (st ++ [Ob.map es])[st.length]? = some (.map es) := fun es => by simp
    have hset : ∀ es es' : List (AV × AV), (st ++ [Ob.map es]).set st.length (.map es') = st ++ [.map es'] := fun es es' => by simp
    have w0 : IntKind.wrap .i64 ((0 : Int) + 1) = 1 := rfl
    have w1 : IntKind.wrap .i64 ((1 : Int) + 1) = 2 := rfl
    rw [value_formed.p1110100_eq]
    by_cases hm : x ∈ pre
    · obtain ⟨j, k1, k2⟩ := keyNo_some pre 0 hm
      have k2 := k2 (.int .i64 2)
      refine ⟨(cntM pre).set j (.str x, .int .i64 2), ?_⟩
      simp only [Nat.zero_add] at k1 k2
      simp only [hlt, decide_true, cond_true, hia, ld1, Option.bind_some, key_td9, if_true, lkM, mapOf, hget, k1, if_false, Bool.false_eq_true, asI, w1, setM, known, hset, k2, show decide ((1 : Int) < 2) = true from rfl, value_formed.p11101001100111_eq, namesB, hm, Bool.not_true, Bool.false_and]
    · have k1 := keyNo_none pre 0 hm
      have k2 : keyNo (.str x) (cntM pre ++ [(.str x, .int .i64 1)]) 0 = some (some (pre.length, .int .i64 1)) := by
        have : ∀ (l : List ByteArray) (i : Nat), x ∉ l → keyNo (.str x) (cntM l ++ [(.str x, .int .i64 1)]) i = some (some (i + l.length, .int .i64 1)) := by
          intro l
          induction l with
          | nil => intro i _; simp [cntM, keyNo, eqCell]
          | cons y r ih =>
            intro i h
            have h1 : ¬ x = y := fun e => h (by simp [e])
            have h2 := ih (i + 1) (fun e => h (by simp [e]))
            simp only [cntM, List.map_cons, List.cons_append, keyNo, eqCell, Option.bind_some, h1, decide_false, if_false, Bool.false_eq_true, List.length_cons] at h2 ⊢
            rw [h2, show i + 1 + r.length = i + (r.length + 1) by omega]
        simpa using this pre 0 hm
      have hcnt : cntM pre ++ [(.str x, .int .i64 1)] = cntM (pre ++ [x]) := by simp [cntM]
      rw [hcnt] at k2
      obtain ⟨es, nxt⟩ := ih (pre ++ [x]) (by rw [hpre]; simp)
      cases hok : okT x with
      | true =>
        refine ⟨es, ?_⟩
        simp only [hlt, decide_true, cond_true, hia, ld1, Option.bind_some, key_td9, if_true, lkM, mapOf, hget, k1, pk0, if_false, Bool.false_eq_true, asI, w0, setM, known, hset, k2, show decide ((1 : Int) < 1) = false from rfl, cond_false, text_ok x (by omega), Out.on, asB, hok, Bool.not_true, value_formed.p11101001100111_eq, hw, hcnt, nxt, namesB, hm, decide_false, Bool.not_false, Bool.true_and]
      | false =>
        refine ⟨cntM (pre ++ [x]), ?_⟩
        simp only [hlt, decide_true, cond_true, hia, ld1, Option.bind_some, key_td9, if_true, lkM, mapOf, hget, k1, pk0, if_false, Bool.false_eq_true, asI, w0, setM, known, hset, k2, show decide ((1 : Int) < 1) = false from rfl, cond_false, text_ok x (by omega), Out.on, asB, hok, Bool.not_false, value_formed.p11101001100111_eq, hcnt, namesB, hm, decide_false, Bool.true_and, Bool.false_and]

/-- A value, but for its parts: may it be? -/
noncomputable def alone (h : Hd) (m : Nat) : Bool :=
  !(h.b && !decide (h.k = 2)) && (!(!decide (h.n = 0) && !decide (h.k = 3)) && (!(!decide (h.s = ⟨#[]⟩) && !decide (h.k = 4)) && (!(decide (0 < h.names.length) && !decide (h.k = 6)) && (!(decide (0 < m) && (!decide (h.k = 5) && !decide (h.k = 6))) &&
    (!(decide (h.k = 6) && !decide (h.names.length = m)) && (namesB [] h.names && okT h.s))))))

theorem formed_spec {cs : List AV} {v : AV} {h : Hd} {a p : AV} {parts : Va} {st : Sto} (hcs : cs = hcells h a p) (hp : Pt st.length st v cs) (ha : NamV h.names a) (hq : VaV parts p) (hs : nsz h.names ≤ 1050000) (hss : h.s.size ≤ 1050000) :
    CallR ap 37 [v] st = some (.ret (.bool (alone h parts.len)), st) := by
  have g0 := hp.get (R := Res) 0 (.int .i64 h.k) (by rw [hcs]; rfl)
  have g1 := hp.get (R := Res) 1 (.bool h.b) (by rw [hcs]; rfl)
  have g2 := hp.get (R := Res) 2 (.int .i64 h.n) (by rw [hcs]; rfl)
  have g3 := hp.get (R := Res) 3 (.str h.s) (by rw [hcs]; rfl)
  have g4 := hp.get (R := Res) 4 a (by rw [hcs]; rfl)
  have g5 := hp.get (R := Res) 5 p (by rw [hcs]; rfl)
  have g4' := (hp.mono (Keeps.app (l := [.map []]) (Nat.le_refl _))).get (R := Res) 4 a (by rw [hcs]; rfl)
  obtain ⟨es, hes⟩ := names_loop hcs hp ha hs hss h.names [] rfl
  have c1 : (0 : Int) < ((h.names.length : Nat) : Int) ↔ 0 < h.names.length := by omega
  have c2 : (0 : Int) < ((parts.len : Nat) : Int) ↔ 0 < parts.len := by omega
  have c3 : ((h.names.length : Nat) : Int) = ((parts.len : Nat) : Int) ↔ h.names.length = parts.len := by omega
  have e1 : ∀ t, ∃ st', value_formed.p100111 v t st = some ⟨.ret (.bool (!t && (namesB [] h.names && okT h.s))), none, st'⟩ ∧ Keeps st.length st st' := by
    intro t
    rw [value_formed.p100111_eq]
    cases t with
    | true => exact ⟨st, rfl, Keeps.refl _ _⟩
    | false =>
      refine ⟨_, ?_, Keeps.app (l := [.map es]) (Nat.le_refl _)⟩
      simp only [cond_false, hp.nk, Option.bind_some, g4', ha.len, Bool.not_false, Bool.true_and]
      exact hes
  have e2 : ∀ t, ∃ st', value_formed.p1001 v t st = some ⟨.ret (.bool (!t && (!(decide (h.k = 6) && !decide (h.names.length = parts.len)) && (namesB [] h.names && okT h.s)))), none, st'⟩ ∧ Keeps st.length st st' := by
    intro t
    rw [value_formed.p1001_eq]
    cases t with
    | true => exact ⟨st, rfl, Keeps.refl _ _⟩
    | false =>
      simp only [cond_false, hp.nk, Option.bind_some, g0, asI, if_true, g4, g5, ha.len, hq.len, c3]
      by_cases hk : h.k = 6
      · obtain ⟨s, k1, k2⟩ := e1 (!decide (h.names.length = parts.len))
        exact ⟨s, by simpa [hk] using k1, k2⟩
      · obtain ⟨s, k1, k2⟩ := e1 false
        exact ⟨s, by simpa [hk] using k1, k2⟩
  have e3 : ∀ t, ∃ st', value_formed.p10001111111 v t st = some ⟨.ret (.bool (!t && (!(decide (0 < parts.len) && (!decide (h.k = 5) && !decide (h.k = 6))) && (!(decide (h.k = 6) && !decide (h.names.length = parts.len)) && (namesB [] h.names && okT h.s))))), none, st'⟩ ∧ Keeps st.length st st' := by
    intro t
    rw [value_formed.p10001111111_eq]
    cases t with
    | true =>
      obtain ⟨s, k1, k2⟩ := e2 true
      exact ⟨s, by simpa using k1, k2⟩
    | false =>
      simp only [cond_false, hp.nk, Option.bind_some, g0, asI, if_true, g5, hq.len, c2]
      by_cases h0 : 0 < parts.len
      · by_cases h5 : h.k = 5
        · obtain ⟨s, k1, k2⟩ := e2 false
          exact ⟨s, by simpa [h0, h5] using k1, k2⟩
        · obtain ⟨s, k1, k2⟩ := e2 (!decide (h.k = 6))
          exact ⟨s, by simpa [h0, h5] using k1, k2⟩
      · obtain ⟨s, k1, k2⟩ := e2 false
        exact ⟨s, by simpa [h0] using k1, k2⟩
  have e4 : ∀ t, ∃ st', value_formed.p100011111 v t st = some ⟨.ret (.bool (!t && (!(decide (0 < h.names.length) && !decide (h.k = 6)) && (!(decide (0 < parts.len) && (!decide (h.k = 5) && !decide (h.k = 6))) && (!(decide (h.k = 6) && !decide (h.names.length = parts.len)) && (namesB [] h.names && okT h.s)))))), none, st'⟩ ∧ Keeps st.length st st' := by
    intro t
    rw [value_formed.p100011111_eq]
    cases t with
    | true =>
      obtain ⟨s, k1, k2⟩ := e2 true
      exact ⟨s, by simpa using k1, k2⟩
    | false =>
      simp only [cond_false, hp.nk, Option.bind_some, g0, asI, if_true, g4, ha.len, c1]
      by_cases h0 : 0 < h.names.length
      · obtain ⟨s, k1, k2⟩ := e3 (!decide (h.k = 6))
        exact ⟨s, by simpa [h0] using k1, k2⟩
      · obtain ⟨s, k1, k2⟩ := e3 false
        exact ⟨s, by simpa [h0] using k1, k2⟩
  have e5 : ∀ t, ∃ st', value_formed.p1000111 v t st = some ⟨.ret (.bool (!t && (!(!decide (h.s = ⟨#[]⟩) && !decide (h.k = 4)) && (!(decide (0 < h.names.length) && !decide (h.k = 6)) && (!(decide (0 < parts.len) && (!decide (h.k = 5) && !decide (h.k = 6))) && (!(decide (h.k = 6) && !decide (h.names.length = parts.len)) && (namesB [] h.names && okT h.s))))))), none, st'⟩ ∧ Keeps st.length st st' := by
    intro t
    rw [value_formed.p1000111_eq]
    cases t with
    | true =>
      obtain ⟨s, k1, k2⟩ := e2 true
      exact ⟨s, by simpa using k1, k2⟩
    | false =>
      simp only [cond_false, hp.nk, Option.bind_some, g0, asI, if_true, g3, asS]
      by_cases h0 : h.s = ⟨#[]⟩
      · obtain ⟨s, k1, k2⟩ := e4 false
        exact ⟨s, by simpa [h0] using k1, k2⟩
      · obtain ⟨s, k1, k2⟩ := e4 (!decide (h.k = 4))
        exact ⟨s, by simpa [h0] using k1, k2⟩
  have e6 : ∀ t, ∃ st', value_formed.p10001 v t st = some ⟨.ret (.bool (!t && (!(!decide (h.n = 0) && !decide (h.k = 3)) && (!(!decide (h.s = ⟨#[]⟩) && !decide (h.k = 4)) && (!(decide (0 < h.names.length) && !decide (h.k = 6)) && (!(decide (0 < parts.len) && (!decide (h.k = 5) && !decide (h.k = 6))) && (!(decide (h.k = 6) && !decide (h.names.length = parts.len)) && (namesB [] h.names && okT h.s)))))))), none, st'⟩ ∧ Keeps st.length st st' := by
    intro t
    rw [value_formed.p10001_eq]
    cases t with
    | true =>
      obtain ⟨s, k1, k2⟩ := e2 true
      exact ⟨s, by simpa using k1, k2⟩
    | false =>
      simp only [cond_false, hp.nk, Option.bind_some, g0, asI, if_true, g2]
      by_cases h0 : h.n = 0
      · obtain ⟨s, k1, k2⟩ := e5 false
        exact ⟨s, by simpa [h0] using k1, k2⟩
      · obtain ⟨s, k1, k2⟩ := e5 (!decide (h.k = 3))
        exact ⟨s, by simpa [h0] using k1, k2⟩
  have e7 : ∃ st', value_formed.b v st = some ⟨.ret (.bool (alone h parts.len)), none, st'⟩ ∧ Keeps st.length st st' := by
    rw [value_formed.b_eq]
    unfold alone
    simp only [hp.nk, Option.bind_some, g0, g1, asI, if_true, guardT, gOn]
    cases h.b with
    | true =>
      obtain ⟨s, k1, k2⟩ := e6 (!decide (h.k = 2))
      exact ⟨s, by simpa using k1, k2⟩
    | false =>
      obtain ⟨s, k1, k2⟩ := e6 false
      exact ⟨s, by simpa using k1, k2⟩
  obtain ⟨s, k1, k2⟩ := e7
  rw [value_formed.call]
  exact ret_keep k1 rfl rfl k2

theorem Pt.weak {n m : Nat} {st : Sto} {v : AV} {cs : List AV} (h : Pt n st v cs) (k : n ≤ m) : Pt m st v cs := by
  obtain ⟨hl, h⟩ := h
  rcases h with rfl | ⟨id, h1, rfl, h2⟩
  · exact ⟨hl, .inl rfl⟩
  · exact ⟨hl, .inr ⟨id, by omega, rfl, h2⟩⟩

/-- A row that is gone through: what is left of it. -/
def Fr (ts : Va) (p : AV) (i L : Nat) : Prop := lenL p = some L ∧ i + ts.len = L ∧ L ≤ 1050000 ∧ p.isCell = true ∧ p.cells = [p] ∧ (ts = .nil ∨ ∃ row tok, p = .is row L tok ∧ Row ts (row.drop (i * 6)))

theorem Fr.of {ts : Va} {v : AV} (h : VaV ts v) (hs : ts.sz ≤ 1050000) : Fr ts v 0 ts.len := by
  have := len_sz ts
  rcases h with ⟨h, rfl⟩ | ⟨row, tok, rfl, hr⟩
  · exact ⟨by rw [h]; rfl, by omega, by omega, rfl, rfl, .inl (len_nil h)⟩
  · exact ⟨rfl, by omega, by omega, rfl, rfl, .inr ⟨row, tok, rfl, by simpa using hr⟩⟩

section
variable {σ : Type} (most : Nat) (step : σ → Nat → Hd → Nat → σ × Bool)
/-- All values of a row, at a depth: the state behind them; was it wanted to the end? -/
def go : Va → σ → Nat → σ × Bool
  | .nil, q, _ => (q, true)
  | .cons h parts rest, q, d =>
    if (step q d h parts.len).2 = true then
      (if (if d < most then go parts (step q d h parts.len).1 (d + 1) else ((step q d h parts.len).1, true)).2 = true
        then go rest (if d < most then go parts (step q d h parts.len).1 (d + 1) else ((step q d h parts.len).1, true)).1 d
        else (if d < most then go parts (step q d h parts.len).1 (d + 1) else ((step q d h parts.len).1, true)))
    else ((step q d h parts.len).1, false)

/-- Who asks for the values, one by one. -/
structure Asks (n0 n1 : Nat) (c1 : AV) (m0 : Nat) (Inv : σ → Bool → Sto → Prop) : Prop where
  stable : ∀ q b st st', Inv q b st → Keeps n0 st st' → Inv q b st'
  most : ∀ q b st, Inv q b st → ld false 1 st c1 = some (.int .i64 ((most : Nat) : Int))
  yield : ∀ q st d h parts v cs, Inv q true st → n0 ≤ st.length → Pt n1 st v cs → One h parts cs → nsz h.names ≤ 1050000 → h.s.size ≤ 1050000 → 1 ≤ d → d ≤ 1050000 →
    ∃ st', CallR ap rnd [.yl m0, .int .i64 ((d : Nat) : Int), v] st = some (.ret (.bool (step q d h parts.len).2), st') ∧ Inv (step q d h parts.len).1 (step q d h parts.len).2 st' ∧ st'.length = st.length ∧ ∀ i, n0 ≤ i → st'[i]? = st[i]?

variable {n0 n1 m0 : Nat} {c1 : AV} {Inv : σ → Bool → Sto → Prop}

/-- The top of the stack is read. -/
theorem frame {id g len : Nat} {cells : List AV} {p : AV} {i L : Nat} {st : Sto} {x : Int} (hst : st[id]? = some (.cells g cells 0)) (h0 : cells[len * 2]? = some p) (h1 : cells[len * 2 + 1]? = some (.int .i64 ((i : Nat) : Int))) (hL : lenL p = some L) (hm : ld false 1 st c1 = some (.int .i64 ((most : Nat) : Int))) (hlen : len ≤ 1050000) :
    value_all_1.p1100 (.yl m0) c1 (.ms id g 0 (len + 1) 2) st = value_all_1.p110010101 (.yl m0) c1 (.ms id g 0 (len + 1) 2) (.mp id g (len * 2)) (decide (i = L) || decide (most ≤ len + 1)) st := by
  have w0 : IntKind.wrap .i64 (((len + 1 : Nat) : Int) - 1) = ((len : Nat) : Int) := w64 _ (by omega) (by omega)
  have hia : ia 2 (.ms id g 0 (len + 1) 2) (.int .i64 ((len : Nat) : Int)) = some (.mp id g (len * 2)) := by
    simp only [ia, if_true, idx_nat (show len < len + 1 by omega), Option.bind_some, Nat.zero_add]
  have r0 := m_get hst h0
  have r1 := m_get hst h1
  rw [value_all_1.p1100_eq]
  have hpos : (0 : Int) < ((len + 1 : Nat) : Int) := by omega
  have c : (((i : Nat) : Int) = ((L : Nat) : Int)) ↔ i = L := by omega
  have c2 : (((most : Nat) : Int) ≤ ((len + 1 : Nat) : Int)) ↔ most ≤ len + 1 := by omega
  have l0 : lenL (.ms id g 0 (len + 1) 2) = some (len + 1) := rfl
  simp only [l0, Option.bind_some, hpos, decide_true, cond_true, w0, hia, nilCk, fa, Nat.add_zero, r1, r0, hL, asI, if_true, hm, c, c2]
  by_cases hi : i = L
  · simp only [hi, decide_true, cond_true, Bool.true_or]
  · simp only [hi, decide_false, cond_false, Bool.false_or]

theorem splice_mid (A junk : List AV) (x y : AV) : splice (A ++ x :: junk) A.length [y] = A ++ y :: junk := by
  unfold splice
  rw [List.take_left, List.length_singleton, ← List.drop_drop, List.drop_left]
  rfl

/-- The top of the stack goes. -/
theorem pop {id g len : Nat} {v : AV} {st : Sto} (hlen : len ≤ 1050000) :
    value_all_1.p110010101 (.yl m0) c1 (.ms id g 0 (len + 1) 2) v true st = value_all_1.p1100 (.yl m0) c1 (.ms id g 0 len 2) st := by
  have w0 : IntKind.wrap .i64 (((len + 1 : Nat) : Int) - 1) = ((len : Nat) : Int) := w64 _ (by omega) (by omega)
  have hb : bnd (len + 1) (len + 1) (some (.int .i64 ((len : Nat) : Int))) = some len := by
    simp only [bnd]
    rw [if_pos (by omega)]
    simp
  rw [value_all_1.p110010101_eq]
  simp only [cond_true, lenL, Option.bind_some, w0, cutL, hb]
  simp only [bnd, Option.bind_some, if_true, Nat.zero_mul, Nat.add_zero, Nat.sub_zero]

theorem agg2 (p : AV) (hc : p.isCell = true) (h1 : p.cells = [p]) : (aggA (fillA (fun i => ([(0, 1), (1, 1)] : List (Nat × Nat))[i]?) [.nils, .int .i64 0] [(0, p)])) = some (.agg [p, .int .i64 0]) := by
  simp [aggA, fillA, h1, hc, splice]
theorem lit2 (p : AV) (hc : p.isCell = true) (wr : Bool) (st : Sto) : (litS wr 1 2 (fillA (fun i => some (i * 2, 2)) [.nils, .int .i64 0] [(0, .agg [p, .int .i64 0])]) st) = (if wr then some (.ms st.length 0 0 1 2, st ++ [.cells 0 [p, .int .i64 0] 0]) else some (.is [p, .int .i64 0] 1 .full, st)) := by
  have h2 : (AV.int .i64 0).isCell = true := rfl
  have : (fillA (fun i => some (i * 2, 2)) [.nils, .int .i64 0] [(0, .agg [p, .int .i64 0])]) = some [p, .int .i64 0] := by
    simp [fillA, AV.cells, hc, h2, splice]
  rw [this]
  rfl

def TopOk (ts : Va) : Prop := ∀ (q : σ) (st : Sto) (id g len i L : Nat) (fs junk : List AV) (p : AV), Inv q true st → n0 ≤ st.length → n0 ≤ id → st[id]? = some (.cells g (fs ++ p :: .int .i64 ((i : Nat) : Int) :: junk) 0) → fs.length = len * 2 → len + 1 < most → Fr ts p i L → ts.sz ≤ 1050000 →
  ((go most step ts q (len + 2)).2 = true → ∃ g' junk' st', value_all_1.p1100 (.yl m0) c1 (.ms id g 0 (len + 1) 2) st = value_all_1.p1100 (.yl m0) c1 (.ms id g' 0 len 2) st' ∧ Inv (go most step ts q (len + 2)).1 true st' ∧ n0 ≤ st'.length ∧ st'[id]? = some (.cells g' (fs ++ junk') 0)) ∧
  ((go most step ts q (len + 2)).2 = false → ∃ st', value_all_1.p1100 (.yl m0) c1 (.ms id g 0 (len + 1) 2) st = some ⟨.ret (.tup []), none, st'⟩ ∧ Inv (go most step ts q (len + 2)).1 false st')

theorem top_all (hA : Asks most step n0 n1 c1 m0 Inv) (hmost : most ≤ 1000) (ts : Va) : TopOk most step (n0 := n0) (m0 := m0) (c1 := c1) (Inv := Inv) ts := by
  induction ts with
  | nil =>
    intro q st id g len i L fs junk p hI hn hid hst hfs hlt hF hs
    obtain ⟨hL, hiL, _, _⟩ := hF
    simp only [Va.len, Nat.add_zero] at hiL
    have h0 : (fs ++ p :: .int .i64 ((i : Nat) : Int) :: junk)[len * 2]? = some p := by rw [← hfs]; simp
    have h1 : (fs ++ p :: .int .i64 ((i : Nat) : Int) :: junk)[len * 2 + 1]? = some (.int .i64 ((i : Nat) : Int)) := by rw [← hfs]; simp
    refine ⟨fun _ => ⟨g, p :: .int .i64 ((i : Nat) : Int) :: junk, st, ?_, hI, hn, hst⟩, fun h => by simp [go] at h⟩
    rw [frame most hst h0 h1 hL (hA.most _ _ _ hI) (by omega) (x := 0)]
    simp only [hiL, decide_true, Bool.true_or]
    exact pop (by omega)
  | cons h parts rest ihp ihr =>
    intro q st id g len i L fs junk p hI hn hid hst hfs hlt hF hs
    obtain ⟨hL, hiL, hL2, hpc, hpc2, hrow⟩ := hF
    simp only [Va.len] at hiL
    simp only [Va.sz] at hs
    obtain ⟨row, tok, rfl, hr⟩ : ∃ row tok, p = .is row L tok ∧ Row (.cons h parts rest) (row.drop (i * 6)) := by
      rcases hrow with hrow | hrow
      · cases hrow
      · exact hrow
    have h0 : (fs ++ AV.is row L tok :: .int .i64 ((i : Nat) : Int) :: junk)[len * 2]? = some (.is row L tok) := by rw [← hfs]; simp
    have h1 : (fs ++ AV.is row L tok :: .int .i64 ((i : Nat) : Int) :: junk)[len * 2 + 1]? = some (.int .i64 ((i : Nat) : Int)) := by rw [← hfs]; simp
    obtain ⟨a, pl, hIn, hna, hpl, hr', hrl, hia⟩ := row_at hr
    have hia := hia L tok (by omega)
    have w1 : IntKind.wrap .i64 (((i : Nat) : Int) + 1) = ((i + 1 : Nat) : Int) := w64 _ (by omega) (by omega)
    have w2 : IntKind.wrap .i64 (((len + 1 : Nat) : Int) + 1) = ((len + 2 : Nat) : Int) := w64 _ (by omega) (by omega)
    have hstep : value_all_1.p1100 (.yl m0) c1 (.ms id g 0 (len + 1) 2) st = value_all_1.p110010101 (.yl m0) c1 (.ms id g 0 (len + 1) 2) (.mp id g (len * 2)) false st := by
      rw [frame most hst h0 h1 hL (hA.most _ _ _ hI) (by omega) (x := 0)]
      have e1 : ¬ i = L := by omega
      have e2 : ¬ most ≤ len + 1 := by omega
      simp only [e1, e2, decide_false, Bool.false_or]
    -- the place goes on
    have hsto : sto 1 st (.mp id g (len * 2 + 1)) (.int .i64 ((i + 1 : Nat) : Int)) = some (st.set id (.cells g (fs ++ AV.is row L tok :: .int .i64 ((i + 1 : Nat) : Int) :: junk) 0)) := by
      have hl : len * 2 + 1 + 1 ≤ (fs ++ AV.is row L tok :: AV.int .i64 ((i : Nat) : Int) :: junk).length := by simp [hfs]; omega
      have hc : ([AV.int .i64 ((i + 1 : Nat) : Int)]).all AV.isCell = true := rfl
      have hsp : splice (fs ++ AV.is row L tok :: AV.int .i64 ((i : Nat) : Int) :: junk) (len * 2 + 1) [.int .i64 ((i + 1 : Nat) : Int)] = fs ++ AV.is row L tok :: .int .i64 ((i + 1 : Nat) : Int) :: junk := by
        have := splice_mid (fs ++ [AV.is row L tok]) junk (.int .i64 ((i : Nat) : Int)) (.int .i64 ((i + 1 : Nat) : Int))
        simpa [hfs] using this
      unfold sto
      rw [show (AV.int .i64 ((i + 1 : Nat) : Int)).cells = [AV.int .i64 ((i + 1 : Nat) : Int)] from rfl, if_pos (show [AV.int .i64 ((i + 1 : Nat) : Int)].length = 1 from rfl)]
      simp only [stCells, hst, List.length_singleton, Nat.zero_le, hl, hc, true_and, and_self, if_true, hsp]
    obtain ⟨st1, hst1⟩ : ∃ s, s = st.set id (.cells g (fs ++ AV.is row L tok :: .int .i64 ((i + 1 : Nat) : Int) :: junk) 0) := ⟨_, rfl⟩
    rw [← hst1] at hsto
    have hidl := (List.getElem?_eq_some_iff.1 hst).1
    have k1 : Keeps n0 st st1 := by rw [hst1]; exact Keeps.set hid
    have hl1 : n0 ≤ st1.length := by rw [hst1]; simpa using hn
    have hg1 : st1[id]? = some (.cells g (fs ++ AV.is row L tok :: .int .i64 ((i + 1 : Nat) : Int) :: junk) 0) := by rw [hst1]; exact List.getElem?_set_self hidl
    have hpt : Pt n1 st1 (.ip (hcells h a pl)) (hcells h a pl) := ⟨rfl, .inl rfl⟩
    obtain ⟨st2, y1, y2, y3, y4⟩ := hA.yield q st1 (len + 2) h parts _ _ (hA.stable _ _ _ _ hI k1) hl1 hpt ⟨a, pl, rfl, hIn, hna, hpl⟩ (by omega) (by omega) (by omega) (by omega)
    have hinv : invokeA ap (CallR ap) (.yl m0) [(.int .i64 ((len + 2 : Nat) : Int)), .ip (hcells h a pl)] st1 = CallR ap rnd [.yl m0, .int .i64 ((len + 2 : Nat) : Int), .ip (hcells h a pl)] st1 := rfl
    have hg2 : st2[id]? = some (.cells g (fs ++ AV.is row L tok :: .int .i64 ((i + 1 : Nat) : Int) :: junk) 0) := by rw [y4 id hid]; exact hg1
    have hpt2 : Pt n1 st2 (.ip (hcells h a pl)) (hcells h a pl) := ⟨rfl, .inl rfl⟩
    have hbody : value_all_1.p1100 (.yl m0) c1 (.ms id g 0 (len + 1) 2) st = (bif (step q (len + 2) h parts.len).2 then
        value_all_1.p1100 (.yl m0) c1 (.ms id (g + 1) 0 (len + 2) 2) (st2.set id (.cells (g + 1) ((fs ++ [AV.is row L tok, .int .i64 ((i + 1 : Nat) : Int)]) ++ pl :: .int .i64 ((0 : Nat) : Int) :: []) 0)) else some ⟨.ret (.tup []), none, st2⟩) := by
      rw [hstep, value_all_1.p110010101_eq]
      have rr0 := m_get hst h0
      have rr1 := m_get hst h1
      have hroom : room 32 (len + 1 + 1) = true := by simp [room]; omega
      have htail : tailOf false 2 st2 (.is [pl, .int .i64 0] 1 .full) = some ([pl, .int .i64 0], 1) := rfl
      have happ : appL false false 2 32 (.ms id g 0 (len + 1) 2) (.is [pl, .int .i64 0] 1 .full) st2 = some (.ms id (g + 1) 0 (len + 2) 2, st2.set id (.cells (g + 1) ((fs ++ [AV.is row L tok, .int .i64 ((i + 1 : Nat) : Int)]) ++ pl :: .int .i64 ((0 : Nat) : Int) :: []) 0)) := by
        have hle : 0 + (len + 1) * 2 ≤ (fs ++ AV.is row L tok :: AV.int .i64 ((i + 1 : Nat) : Int) :: junk).length := by simp [hfs]; omega
        have htk : (fs ++ AV.is row L tok :: AV.int .i64 ((i + 1 : Nat) : Int) :: junk).take ((len + 1) * 2) = fs ++ [AV.is row L tok, .int .i64 ((i + 1 : Nat) : Int)] := by
          rw [show (len + 1) * 2 = fs.length + 2 by omega, List.take_length_add_append]
          rfl
        simp only [appL, htail, Option.bind_some, true_and, hroom, if_true, hg2, hle, and_self, List.drop_zero, htk]
        rfl
      simp only [cond_false, nilCk, fa, Option.bind_some, Nat.add_zero, rr0, rr1, hia, asI, if_true, w1, hsto, lenL, w2, hinv, y1, Out.on, asB]
      cases (step q (len + 2) h parts.len).2 with
      | false => simp only [Bool.not_false, cond_true, cond_false]
      | true =>
        have h55 := hpt2.get (R := Res) 5 pl rfl
        simp only [fa, nilCk] at h55
        have hag := agg2 pl hpl.cell (by rcases hpl with ⟨_, rfl⟩ | ⟨_, _, rfl, _⟩ <;> rfl)
        have hli := lit2 pl hpl.cell false st2
        simp only [if_false, Bool.false_eq_true] at hli
        simp only [Bool.not_true, cond_false, cond_true]
        rw [h55]
        simp only [hag, hli, Option.bind_some, happ]
    have hgo : go most step (.cons h parts rest) q (len + 2) = if (step q (len + 2) h parts.len).2 = true then
      (if (if len + 2 < most then go most step parts (step q (len + 2) h parts.len).1 (len + 2 + 1) else ((step q (len + 2) h parts.len).1, true)).2 = true
        then go most step rest (if len + 2 < most then go most step parts (step q (len + 2) h parts.len).1 (len + 2 + 1) else ((step q (len + 2) h parts.len).1, true)).1 (len + 2)
        else (if len + 2 < most then go most step parts (step q (len + 2) h parts.len).1 (len + 2 + 1) else ((step q (len + 2) h parts.len).1, true)))
      else ((step q (len + 2) h parts.len).1, false) := rfl
    rw [hgo, hbody]
    by_cases hs1 : (step q (len + 2) h parts.len).2 = true
    · rw [hs1] at y2
      rw [if_pos hs1, hs1, cond_true]
      obtain ⟨st3, hst3⟩ : ∃ s, s = st2.set id (.cells (g + 1) ((fs ++ [AV.is row L tok, .int .i64 ((i + 1 : Nat) : Int)]) ++ pl :: .int .i64 ((0 : Nat) : Int) :: []) 0) := ⟨_, rfl⟩
      rw [← hst3]
      have k3 : Keeps n0 st2 st3 := by rw [hst3]; exact Keeps.set hid
      have hI3 := hA.stable _ _ _ _ y2 k3
      have hl3 : n0 ≤ st3.length := by rw [hst3]; simp; omega
      have hg3 : st3[id]? = some (.cells (g + 1) ((fs ++ [AV.is row L tok, .int .i64 ((i + 1 : Nat) : Int)]) ++ pl :: .int .i64 ((0 : Nat) : Int) :: []) 0) := by
        rw [hst3]; exact List.getElem?_set_self (by rw [y3, hst1]; simpa using hidl)
      have hfs' : (fs ++ [AV.is row L tok, .int .i64 ((i + 1 : Nat) : Int)]).length = (len + 1) * 2 := by simp [hfs]; omega
      have hFp := Fr.of hpl (by omega)
      have hFr : Fr rest (.is row L tok) (i + 1) L := ⟨rfl, by omega, hL2, rfl, rfl, .inr ⟨row, tok, rfl, hr'⟩⟩
      -- behind the parts
      have fin : ∀ (q' : σ) (g' : Nat) (junk' : List AV) (st' : Sto), Inv q' true st' → n0 ≤ st'.length → st'[id]? = some (.cells g' ((fs ++ [AV.is row L tok, .int .i64 ((i + 1 : Nat) : Int)]) ++ junk') 0) →
          ((go most step rest q' (len + 2)).2 = true → ∃ g'' junk'' st'', value_all_1.p1100 (.yl m0) c1 (.ms id g' 0 (len + 1) 2) st' = value_all_1.p1100 (.yl m0) c1 (.ms id g'' 0 len 2) st'' ∧ Inv (go most step rest q' (len + 2)).1 true st'' ∧ n0 ≤ st''.length ∧ st''[id]? = some (.cells g'' (fs ++ junk'') 0)) ∧
          ((go most step rest q' (len + 2)).2 = false → ∃ st'', value_all_1.p1100 (.yl m0) c1 (.ms id g' 0 (len + 1) 2) st' = some ⟨.ret (.tup []), none, st''⟩ ∧ Inv (go most step rest q' (len + 2)).1 false st'') := by
        intro q' g' junk' st' hI' hn' hg'
        exact ihr q' st' id g' len (i + 1) L fs junk' (.is row L tok) hI' hn' hid (by rw [hg']; simp) hfs hlt hFr (by omega)
      by_cases hd : len + 2 < most
      · simp only [hd, if_true]
        obtain ⟨p1, p2⟩ := ihp (step q (len + 2) h parts.len).1 st3 id (g + 1) (len + 1) 0 parts.len (fs ++ [AV.is row L tok, .int .i64 ((i + 1 : Nat) : Int)]) [] pl hI3 hl3 hid hg3 hfs' hd hFp (by omega)
        by_cases hp : (go most step parts (step q (len + 2) h parts.len).1 (len + 2 + 1)).2 = true
        · obtain ⟨g', junk', st', e1, e2, e3, e4⟩ := p1 hp
          rw [if_pos hp]
          have e1 : value_all_1.p1100 (.yl m0) c1 (.ms id (g + 1) 0 (len + 2) 2) st3 = value_all_1.p1100 (.yl m0) c1 (.ms id g' 0 (len + 1) 2) st' := e1
          rw [e1]
          exact fin _ g' junk' st' e2 e3 e4
        · rw [if_neg hp]
          have hp' : (go most step parts (step q (len + 2) h parts.len).1 (len + 2 + 1)).2 = false := by simpa using hp
          obtain ⟨st', e1, e2⟩ := p2 hp'
          exact ⟨fun h => absurd h hp, fun _ => ⟨st', e1, e2⟩⟩
      · simp only [hd, if_false]
        have h03 : ((fs ++ [AV.is row L tok, .int .i64 ((i + 1 : Nat) : Int)]) ++ pl :: .int .i64 ((0 : Nat) : Int) :: [])[(len + 1) * 2]? = some pl := by rw [← hfs']; simp
        have h13 : ((fs ++ [AV.is row L tok, .int .i64 ((i + 1 : Nat) : Int)]) ++ pl :: .int .i64 ((0 : Nat) : Int) :: [])[(len + 1) * 2 + 1]? = some (.int .i64 ((0 : Nat) : Int)) := by
          rw [← hfs', List.getElem?_append_right (by omega), show (fs ++ [AV.is row L tok, AV.int .i64 ((i + 1 : Nat) : Int)]).length + 1 - (fs ++ [AV.is row L tok, AV.int .i64 ((i + 1 : Nat) : Int)]).length = 1 by omega]
          rfl
        have e1 : value_all_1.p1100 (.yl m0) c1 (.ms id (g + 1) 0 (len + 2) 2) st3 = value_all_1.p1100 (.yl m0) c1 (.ms id (g + 1) 0 (len + 1) 2) st3 := by
          rw [frame most hg3 h03 h13 hpl.len (hA.most _ _ _ hI3) (by omega) (x := 0)]
          have : most ≤ len + 1 + 1 := by omega
          simp only [this, decide_true, Bool.or_true]
          exact pop (by omega)
        rw [e1]
        exact fin _ (g + 1) _ st3 hI3 hl3 hg3
    · rw [if_neg hs1]
      have hs2 : (step q (len + 2) h parts.len).2 = false := by simpa using hs1
      rw [hs2] at y2
      rw [hs2, cond_false]
      exact ⟨fun h => by simp at h, fun _ => ⟨st2, rfl, y2⟩⟩

/-- All of a value. -/
theorem all_spec (hA : Asks most step n0 n1 c1 m0 Inv) (hmost : most ≤ 1000) (hm1 : 1 < most) {q : σ} {st : Sto} {c0 v : AV} {cs : List AV} {h : Hd} {parts : Va} (hI : Inv q true st) (hn : n0 ≤ st.length) (hc0 : ∀ q b st, Inv q b st → ld false 1 st c0 = some v) (hv : Pt n1 st v cs) (hstv : ∀ q b st', Inv q b st' → Pt n1 st' v cs)
    (h1 : One h parts cs) (hs : (Va.cons h parts .nil).sz ≤ 1050000) :
    ∃ st', value_all_1.b (.yl m0) c0 c1 st = some ⟨.ret (.tup []), none, st'⟩ ∧ Inv (go most step (.cons h parts .nil) q 1).1 (go most step (.cons h parts .nil) q 1).2 st' := by
  simp only [Va.sz] at hs
  obtain ⟨st2, y1, y2, y3, y4⟩ := hA.yield q st 1 h parts _ _ hI hn hv h1 (by omega) (by omega) (by omega) (by omega)
  have hinv : invokeA ap (CallR ap) (.yl m0) [(.int .i64 1), v] st = CallR ap rnd [.yl m0, .int .i64 ((1 : Nat) : Int), v] st := rfl
  have hp2 := hstv _ _ _ y2
  obtain ⟨a, pl, rfl, hIn, hna, hpl⟩ := h1
  have g5 := hp2.get (R := Res) 5 pl rfl
  rw [value_all_1.b_eq]
  simp only [hc0 _ _ _ hI, Option.bind_some, hinv, y1, Out.on, asB]
  have hgo : go most step (.cons h parts .nil) q 1 = if (step q 1 h parts.len).2 = true then
      (if (if 1 < most then go most step parts (step q 1 h parts.len).1 2 else ((step q 1 h parts.len).1, true)).2 = true
        then ((if 1 < most then go most step parts (step q 1 h parts.len).1 2 else ((step q 1 h parts.len).1, true)).1, true)
        else (if 1 < most then go most step parts (step q 1 h parts.len).1 2 else ((step q 1 h parts.len).1, true)))
      else ((step q 1 h parts.len).1, false) := rfl
  rw [hgo]
  simp only [hm1, if_true]
  by_cases hs1 : (step q 1 h parts.len).2 = true
  · rw [hs1] at y2
    rw [if_pos hs1, hs1]
    have hag := agg2 pl hpl.cell (by rcases hpl with ⟨_, rfl⟩ | ⟨_, _, rfl, _⟩ <;> rfl)
    have hli := lit2 pl hpl.cell true st2
    simp only [if_true] at hli
    simp only [Bool.not_true, cond_false, hc0 _ _ _ y2, hp2.nk, Option.bind_some, g5, hag, hli]
    have k3 : Keeps n0 st2 (st2 ++ [.cells 0 [pl, .int .i64 0] 0]) := Keeps.app (by omega)
    have hI3 := hA.stable _ _ _ _ y2 k3
    obtain ⟨p1, p2⟩ := top_all most step hA hmost parts (step q 1 h parts.len).1 (st2 ++ [.cells 0 [pl, .int .i64 0] 0]) st2.length 0 0 0 parts.len [] [] pl hI3 (by simp; omega) (by omega) (by simp) rfl (by omega) (Fr.of hpl (by omega)) (by omega)
    have e0 : (go most step parts (step q 1 h parts.len).1 (0 + 2)) = go most step parts (step q 1 h parts.len).1 2 := rfl
    rw [e0] at p1 p2
    by_cases hp : (go most step parts (step q 1 h parts.len).1 2).2 = true
    · obtain ⟨g', junk', st', e1, e2, e3, e4⟩ := p1 hp
      rw [if_pos hp]
      refine ⟨st', ?_, e2⟩
      have e1 : value_all_1.p1100 (.yl m0) c1 (.ms st2.length 0 0 1 2) (st2 ++ [.cells 0 [pl, .int .i64 0] 0]) = value_all_1.p1100 (.yl m0) c1 (.ms st2.length g' 0 0 2) st' := e1
      rw [e1, value_all_1.p1100_eq]
      simp [lenL]
    · rw [if_neg hp]
      have hp' : (go most step parts (step q 1 h parts.len).1 2).2 = false := by simpa using hp
      obtain ⟨st', e1, e2⟩ := p2 hp'
      exact ⟨st', e1, by rw [hp']; exact e2⟩
  · rw [if_neg hs1]
    have hs2 : (step q 1 h parts.len).2 = false := by simpa using hs1
    rw [hs2] at y2
    rw [hs2]
    exact ⟨st2, rfl, y2⟩
end

theorem gc_same {v : AV} {st st' : Sto} (hl : st'.length = st.length) (hs : v.strip st.length = v) : gc st (.ret v, st') = (.ret v, st') := by
  unfold gc
  split
  · simp only [Out.map, hs]
    rw [← hl, List.take_length]
  · rfl
end Go.Proofs.YtiiooldjegoikaaDoor
