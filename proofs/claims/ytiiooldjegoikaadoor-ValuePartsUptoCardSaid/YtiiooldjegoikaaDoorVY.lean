/- Values: the law of parts. -/
import Derived.Test.YtiiooldjegoikaaDoorVU
namespace Go.Proofs.YtiiooldjegoikaaDoor
open Go.St Go.Lib
set_option linter.unusedVariables false
set_option linter.unusedSimpArgs false

/-! ### What leads to nothing that is new -/
def Clean (v : AV) : Prop := ∀ n, v.strip n = v ∧ v.old n = true
def Cleans (l : List AV) : Prop := ∀ v ∈ l, Clean v
theorem Cleans.strips {l : List AV} (h : Cleans l) (n : Nat) : strips n l = l := by
  induction l with
  | nil => rfl
  | cons v r ih => simp only [Go.St.strips]; rw [(h v (by simp) n).1, ih fun x hx => h x (by simp [hx])]
theorem Cleans.olds {l : List AV} (h : Cleans l) (n : Nat) : olds n l = true := by
  induction l with
  | nil => rfl
  | cons v r ih => simp only [Go.St.olds]; rw [(h v (by simp) n).2, ih fun x hx => h x (by simp [hx])]; rfl
theorem strips_cleans {l : List AV} (h : ∀ n, strips n l = l ∧ olds n l = true) : Cleans l := by
  induction l with
  | nil => intro v hv; simp at hv
  | cons v r ih =>
    have hv : Clean v := fun n => by
      obtain ⟨a, b⟩ := h n
      simp only [strips, List.cons.injEq] at a
      simp only [olds, Bool.and_eq_true] at b
      exact ⟨a.1, b.1⟩
    have hr : Cleans r := ih fun n => by
      obtain ⟨a, b⟩ := h n
      simp only [strips, List.cons.injEq] at a
      simp only [olds, Bool.and_eq_true] at b
      exact ⟨a.2, b.2⟩
    intro x hx
    rcases List.mem_cons.1 hx with rfl | hx
    · exact hv
    · exact hr x hx
theorem Cleans.app {a b : List AV} (h : Cleans a) (k : Cleans b) : Cleans (a ++ b) := fun v hv => by
  rcases List.mem_append.1 hv with hv | hv
  · exact h v hv
  · exact k v hv
theorem clean_is {row : List AV} {n : Nat} (h : Cleans row) : Clean (.is row n .no) := fun k => by
  simp only [AV.strip, AV.old, h.strips, h.olds, Tok.strip, Tok.old, Bool.and_self, and_self]
/-- An element of what leads to nothing new. -/
theorem clean_elem {p : AV} {i : Nat} {es : List AV} {ts : Va} (hp : VaV ts p) (hc : Clean p) (h : ia 6 p (.int .i64 ((i : Nat) : Int)) = some (.ip es)) : Cleans es := by
  rcases hp with ⟨_, rfl⟩ | ⟨row, tok, rfl, _⟩
  · simp [ia] at h
  · have hrow : Cleans row := strips_cleans fun n => by
      obtain ⟨a, b⟩ := hc n
      simp only [AV.strip, AV.is.injEq] at a
      simp only [AV.old, Bool.and_eq_true] at b
      exact ⟨a.1, b.1⟩
    simp only [ia] at h
    cases hj : idx ((i : Nat) : Int) ts.len with
    | none => simp [hj] at h
    | some j =>
      simp only [hj, Option.bind_some] at h
      split at h
      · simp only [Option.some.injEq, AV.ip.injEq] at h
        subst h
        exact fun v hv => hrow v (List.mem_of_mem_drop (List.mem_of_mem_take hv))
      · cases h

theorem clean_flat : ∀ ms : List (List AV), (∀ m ∈ ms, Cleans m) → Cleans ms.flatten := by
  intro ms
  induction ms with
  | nil => intro _ v hv; simp at hv
  | cons m r ih =>
    intro h
    rw [List.flatten_cons]
    exact (h m (by simp)).app (ih fun x hx => h x (by simp [hx]))
theorem clean_one {v : AV} (h : Clean v) : Cleans [v] := fun x hx => by
  simp at hx; subst hx; exact h
theorem clean_row (ms : List (List AV)) (h : ∀ m ∈ ms, Cleans m) : Clean (rowAV ms) := by
  unfold rowAV
  split
  · exact clean_is (clean_flat ms h)
  · exact fun n => ⟨rfl, rfl⟩

theorem clean_shape : ∀ (n : Nat) (l : List AV), Shp ap n 25 l → Cleans l := by
  intro n
  induction n using Nat.strongRecOn with
  | ind n ih =>
    intro l h
    cases n with
    | zero => exact h.elim
    | succ n =>
      simp only [Shp, t25] at h
      obtain ⟨ps, rfl, hl, hp⟩ := h
      match ps, hl with
      | [q0, q1, q2, q3, q4, q5], _ =>
        obtain ⟨k, rfl, hk⟩ := int_shape (hp 0 _ _ rfl rfl)
        obtain ⟨b, rfl⟩ := bool_shape (hp 1 _ _ rfl rfl)
        obtain ⟨x, rfl, hx⟩ := int_shape (hp 2 _ _ rfl rfl)
        obtain ⟨s, rfl⟩ := str_shape (hp 3 _ _ rfl rfl)
        have h4 := hp 4 _ _ rfl rfl
        have h5 := hp 5 _ _ rfl rfl
        have c4 : Cleans q4 := by
          cases n with
          | zero => exact h4.elim
          | succ n =>
            simp only [Shp, t22] at h4
            rcases h4 with rfl | ⟨ms, rfl, _, hm⟩
            · exact clean_one fun n => ⟨rfl, rfl⟩
            · refine clean_one (clean_row ms fun m hmm => ?_)
              obtain ⟨s, rfl⟩ := str_shape (hm m hmm)
              exact clean_one fun n => ⟨rfl, rfl⟩
        have c5 : Cleans q5 := by
          cases n with
          | zero => exact h5.elim
          | succ n =>
            simp only [Shp, t23] at h5
            rcases h5 with rfl | ⟨ms, rfl, _, hm⟩
            · exact clean_one fun n => ⟨rfl, rfl⟩
            · exact clean_one (clean_row ms fun m hmm => ih n (by omega) m (hm m hmm))
        refine clean_flat _ fun m hm => ?_
        simp only [List.mem_cons, List.not_mem_nil, or_false] at hm
        rcases hm with rfl | rfl | rfl | rfl | rfl | rfl
        · exact clean_one fun n => ⟨rfl, rfl⟩
        · exact clean_one fun n => ⟨rfl, rfl⟩
        · exact clean_one fun n => ⟨rfl, rfl⟩
        · exact clean_one fun n => ⟨rfl, rfl⟩
        · exact c4
        · exact c5

/-! ### The document's parts -/
def PartR (c : Option (Out × Sto)) (st : Sto) (o : Option (Hd × Va)) : Prop := ∃ es, c = some (.ret (.tup [.agg es, .int .i64 (ce o)]), st) ∧ One (el o).1 (el o).2 es

theorem zero_aggV : (aggA (fillA (fun i => ([(0, 1), (1, 1), (2, 1), (3, 1), (4, 1), (5, 1)] : List (Nat × Nat))[i]?) zeroV [])) = some (.agg zeroV) := rfl
theorem refField_spec {h : Hd} {parts : Va} {cs : List AV} (h1 : One h parts cs) (hcl : Cleans cs) (hs : nsz h.names ≤ 1050000) (x : ByteArray) (st : Sto) : PartR (CallR ap 29 [.agg cs, .str x] st) st (fieldOf5 h parts x) := by
  have hall := h1.all
  have hlen := nsz_len h.names
  obtain ⟨a, p, hcs, hIn, ha, hp⟩ := h1
  have hpc : Clean p := hcl p (by rw [hcs]; simp [hcells])
  obtain ⟨S, hSe⟩ : ∃ S, S = (st ++ [Ob.cells 0 cs 0]) ++ [Ob.cells 0 zeroV 0] := ⟨_, rfl⟩
  have e1 : (st ++ [Ob.cells 0 cs 0]).length = st.length + 1 := by simp
  have ez : [AV.int .i64 0, .bool false, .int .i64 0, .str ⟨#[]⟩, .nils, .nils] = zeroV := rfl
  have hS : S[st.length]? = some (.cells 0 cs 0) := by rw [hSe]; exact get_mid
  have hS1 : S[st.length + 1]? = some (.cells 0 zeroV 0) := by rw [hSe, ← e1]; exact get_last
  have hk : Keeps st.length st S := by rw [hSe, List.append_assoc]; exact Keeps.app (Nat.le_refl _)
  have hSl : S.length = st.length + 2 := by rw [hSe]; simp
  have g0 : ld false 1 S (.mp st.length 0 0) = some (.int .i64 h.k) := m_get hS (by rw [hcs]; rfl)
  have g4 : ld false 1 S (.mp st.length 0 4) = some a := m_get hS (by rw [hcs]; rfl)
  have g5 : ld false 1 S (.mp st.length 0 5) = some p := m_get hS (by rw [hcs]; rfl)
  have z1 := sto_all hS1 (show zeroV.all AV.isCell = true from rfl) (show zeroV.length = 6 from rfl) rfl
  have z2 := m_all (g := 0) (fz := 0) (n := 6) (List.getElem?_set_self (a := Ob.cells 0 zeroV 0) (show st.length + 1 < S.length by omega)) (show zeroV.length = 6 from rfl)
  have fail : stencilref5_Field.p111 (st.length + 1) S = some ⟨.ret (.tup [.agg zeroV, .int .i64 506]), none, S.set (st.length + 1) (.cells 0 zeroV 0)⟩ := by
    rw [stencilref5_Field.p111_eq]
    simp only [zero_agg, Option.bind_some, z1, z2]
  have hout : ∀ (es : List AV) (o : Option (Hd × Va)) (T : Sto), stencilref5_Field.b (.agg cs) x st = some ⟨.ret (.tup [.agg es, .int .i64 (ce o)]), none, T⟩ → Keeps st.length st T → Cleans es → One (el o).1 (el o).2 es → PartR (CallR ap 29 [.agg cs, .str x] st) st o := fun es o T hb hkT hc hone => by
    refine ⟨es, ?_, hone⟩
    rw [stencilref5_Field.call]
    refine ret_keep hb ?_ ?_ hkT
    · simp only [AV.strip, strips, hc.strips]
    · simp only [AV.old, olds, hc.olds, Bool.and_self]
  have zc : Cleans zeroV := strips_cleans fun n => ⟨rfl, rfl⟩
  have hb := stencilref5_Field.b_eq (.agg cs) x st
  rw [agg_cells, if_pos hall, ez, ← hSe, e1] at hb
  simp only [g0, Option.bind_some, asI, if_true] at hb
  by_cases k6 : h.k = 6
  · simp only [k6, decide_true, Bool.not_true, cond_false] at hb
    have loop : ∀ (suf pre : List ByteArray), h.names = pre ++ suf → stencilref5_Field.p110100 x st.length (st.length + 1) ((pre.length : Nat) : Int) S =
        (match findP x suf with | none => stencilref5_Field.p111 (st.length + 1) S | some j => if pre.length + j < parts.len then (ia 6 p (.int .i64 ((pre.length + j : Nat) : Int))).bind fun v15 => (ld true 6 S v15).bind fun v16 => (sto 6 S (.mp (st.length + 1) 0 0) v16).bind fun s17 => (ld true 6 s17 (.mp (st.length + 1) 0 0)).bind fun v18 => some ⟨.ret (.tup [v18, .int .i64 0]), none, s17⟩ else stencilref5_Field.p111 (st.length + 1) S) := by
      intro suf
      induction suf with
      | nil =>
        intro pre hpre
        rw [List.append_nil] at hpre
        rw [stencilref5_Field.p110100_eq]
        simp only [g4, Option.bind_some, ha.len, hpre, Int.lt_irrefl, decide_false, cond_false, findP]
      | cons y r ih =>
        intro pre hpre
        have hlt : (((pre.length : Nat) : Int) < ((h.names.length : Nat) : Int)) := by rw [hpre]; simp; omega
        have hlen2 : pre.length < h.names.length := by rw [hpre]; simp
        have hw : IntKind.wrap .i64 (((pre.length : Nat) : Int) + 1) = (((pre ++ [y]).length : Nat) : Int) := by
          rw [w64 (pre.length + 1) (by omega) (by omega)]
          simp
        have hia := nam_at (pre := pre) (suf := r) (x := y) (v := a) (by rw [← hpre]; exact ha) (i := ((pre.length : Nat) : Int)) rfl
        have nxt := ih (pre ++ [y]) (by rw [hpre]; simp)
        rw [stencilref5_Field.p110100_eq]
        simp only [g4, g5, Option.bind_some, ha.len, hlt, decide_true, cond_true, hia, ld1, asS, hw, nxt, hp.len, findP]
        by_cases hxy : x = y
        · subst hxy
          by_cases hi : pre.length < parts.len
          · have : ¬ (((parts.len : Nat) : Int) ≤ ((pre.length : Nat) : Int)) := by omega
            simp [this, hi]
          · have : (((parts.len : Nat) : Int) ≤ ((pre.length : Nat) : Int)) := by omega
            simp [this, hi]
        · have hyx : ¬ y = x := fun e => hxy e.symm
          simp only [hyx, hxy, decide_false, cond_false, if_false]
          cases findP x r with
          | none => rfl
          | some j =>
            simp only [Option.map_some, List.length_append, List.length_singleton]
            rw [show pre.length + 1 + j = pre.length + (j + 1) by omega]
    have hl := loop h.names [] rfl
    simp only [List.length_nil, Int.natCast_zero, Nat.zero_add] at hl
    rw [hl] at hb
    cases hf : findP x h.names with
    | none =>
      simp only [hf, fail] at hb
      have ho : fieldOf5 h parts x = none := by simp [fieldOf5, k6, hf]
      rw [ho]
      exact hout zeroV none _ hb (hk.trans (Keeps.set (by omega))) zc zero_one
    | some i =>
      simp only [hf] at hb
      by_cases hi : i < parts.len
      · obtain ⟨e, he⟩ := Va.get_lt hi
        have hfo : fieldOf5 h parts x = some e := by simp [fieldOf5, k6, hf, hi, he]
        obtain ⟨es, hone, hia⟩ := va_get hp he hi
        have hle : es.length = 6 := by obtain ⟨a, p, rfl, _⟩ := hone; rfl
        have l6 : ld true 6 S (.ip es) = some (.agg es) := by
          simp only [ld, ldCells, hle, Nat.le_refl, if_true, Option.bind_some]
          rw [← hle, List.take_length]
          rfl
        have y1 := sto_all hS1 hone.all hle rfl
        have y2 := m_all (g := 0) (fz := 0) (n := 6) (List.getElem?_set_self (a := Ob.cells 0 es 0) (show st.length + 1 < S.length by omega)) hle
        simp only [hi, if_true, hia, Option.bind_some, l6, y1, y2] at hb
        rw [hfo]
        exact hout es (some e) _ hb (hk.trans (Keeps.set (by omega))) (clean_elem hp hpc hia) hone
      · simp only [hi, if_false, fail] at hb
        have ho : fieldOf5 h parts x = none := by simp [fieldOf5, k6, hf, hi]
        rw [ho]
        exact hout zeroV none _ hb (hk.trans (Keeps.set (by omega))) zc zero_one
  · have ho : fieldOf5 h parts x = none := by simp [fieldOf5, k6]
    simp only [k6, decide_false, Bool.not_false, cond_true, zero_aggV, Option.bind_some, z1, z2] at hb
    rw [ho]
    exact hout zeroV none _ hb (hk.trans (Keeps.set (by omega))) zc zero_one

theorem refIndex_spec {h : Hd} {parts : Va} {cs : List AV} (h1 : One h parts cs) (hcl : Cleans cs) (x : Int) (st : Sto) : PartR (CallR ap 30 [.agg cs, .int .i64 x] st) st (indexOf5 h parts x) := by
  have hall := h1.all
  obtain ⟨a, p, hcs, hIn, ha, hp⟩ := h1
  have hpc : Clean p := hcl p (by rw [hcs]; simp [hcells])
  obtain ⟨S, hSe⟩ : ∃ S, S = (st ++ [Ob.cells 0 cs 0]) ++ [Ob.cells 0 zeroV 0] := ⟨_, rfl⟩
  have e1 : (st ++ [Ob.cells 0 cs 0]).length = st.length + 1 := by simp
  have ez : [AV.int .i64 0, .bool false, .int .i64 0, .str ⟨#[]⟩, .nils, .nils] = zeroV := rfl
  have hS : S[st.length]? = some (.cells 0 cs 0) := by rw [hSe]; exact get_mid
  have hS1 : S[st.length + 1]? = some (.cells 0 zeroV 0) := by rw [hSe, ← e1]; exact get_last
  have hk : Keeps st.length st S := by rw [hSe, List.append_assoc]; exact Keeps.app (Nat.le_refl _)
  have hSl : S.length = st.length + 2 := by rw [hSe]; simp
  have g0 : ld false 1 S (.mp st.length 0 0) = some (.int .i64 h.k) := m_get hS (by rw [hcs]; rfl)
  have g5 : ld false 1 S (.mp st.length 0 5) = some p := m_get hS (by rw [hcs]; rfl)
  have z1 := sto_all hS1 (show zeroV.all AV.isCell = true from rfl) (show zeroV.length = 6 from rfl) rfl
  have z2 := m_all (g := 0) (fz := 0) (n := 6) (List.getElem?_set_self (a := Ob.cells 0 zeroV 0) (show st.length + 1 < S.length by omega)) (show zeroV.length = 6 from rfl)
  have fail : stencilref5_Index.p101 x st.length (st.length + 1) true S = some ⟨.ret (.tup [.agg zeroV, .int .i64 506]), none, S.set (st.length + 1) (.cells 0 zeroV 0)⟩ := by
    rw [stencilref5_Index.p101_eq]
    simp only [cond_true, zero_agg, Option.bind_some, z1, z2]
  have hout : ∀ (es : List AV) (o : Option (Hd × Va)) (T : Sto), stencilref5_Index.b (.agg cs) x st = some ⟨.ret (.tup [.agg es, .int .i64 (ce o)]), none, T⟩ → Keeps st.length st T → Cleans es → One (el o).1 (el o).2 es → PartR (CallR ap 30 [.agg cs, .int .i64 x] st) st o := fun es o T hb hkT hc hone => by
    refine ⟨es, ?_, hone⟩
    rw [stencilref5_Index.call]
    refine ret_keep hb ?_ ?_ hkT
    · simp only [AV.strip, strips, hc.strips]
    · simp only [AV.old, olds, hc.olds, Bool.and_self]
  have zc : Cleans zeroV := strips_cleans fun n => ⟨rfl, rfl⟩
  have hb := stencilref5_Index.b_eq (.agg cs) x st
  rw [agg_cells, if_pos hall, ez, ← hSe, e1] at hb
  simp only [g0, g5, Option.bind_some, asI, if_true, hp.len] at hb
  by_cases k5 : h.k = 5
  · simp only [k5, decide_true, Bool.not_true, cond_false] at hb
    by_cases hx : x < 0
    · simp only [hx, decide_true, cond_true, fail] at hb
      have ho : indexOf5 h parts x = none := by unfold indexOf5; rw [if_neg (by omega)]
      rw [ho]
      exact hout zeroV none _ hb (hk.trans (Keeps.set (by omega))) zc zero_one
    · simp only [hx, decide_false, cond_false] at hb
      by_cases hi : ((parts.len : Nat) : Int) ≤ x
      · simp only [hi, decide_true, fail] at hb
        have ho : indexOf5 h parts x = none := by unfold indexOf5; rw [if_neg (by omega)]
        rw [ho]
        exact hout zeroV none _ hb (hk.trans (Keeps.set (by omega))) zc zero_one
      · obtain ⟨i, rfl⟩ : ∃ i : Nat, x = (i : Int) := ⟨x.toNat, by omega⟩
        have hi2 : i < parts.len := by omega
        obtain ⟨e, he⟩ := Va.get_lt hi2
        have hfo : indexOf5 h parts (i : Int) = some e := by unfold indexOf5; rw [if_pos ⟨k5, by omega, by omega⟩]; simpa using he
        obtain ⟨es, hone, hia⟩ := va_get hp he hi2
        have hle : es.length = 6 := by obtain ⟨a, p, rfl, _⟩ := hone; rfl
        have l6 : ld true 6 S (.ip es) = some (.agg es) := by
          simp only [ld, ldCells, hle, Nat.le_refl, if_true, Option.bind_some]
          rw [← hle, List.take_length]
          rfl
        have y1 := sto_all hS1 hone.all hle rfl
        have y2 := m_all (g := 0) (fz := 0) (n := 6) (List.getElem?_set_self (a := Ob.cells 0 es 0) (show st.length + 1 < S.length by omega)) hle
        simp only [hi, decide_false, stencilref5_Index.p101_eq, cond_false, g5, Option.bind_some, hia, l6, y1, y2] at hb
        rw [hfo]
        exact hout es (some e) _ hb (hk.trans (Keeps.set (by omega))) (clean_elem hp hpc hia) hone
  · have ho : indexOf5 h parts x = none := by unfold indexOf5; rw [if_neg (by omega)]
    simp only [k5, decide_false, Bool.not_false, cond_true, fail] at hb
    rw [ho]
    exact hout zeroV none _ hb (hk.trans (Keeps.set (by omega))) zc zero_one

theorem el_sz_f {h : Hd} {parts : Va} (x : ByteArray) (hs : (Va.cons h parts .nil).sz ≤ 1050000) : (Va.cons (el (fieldOf5 h parts x)).1 (el (fieldOf5 h parts x)).2 .nil).sz ≤ 1050000 := by
  simp only [Va.sz] at hs
  cases ho : fieldOf5 h parts x with
  | none => show (Va.cons zeroH .nil .nil).sz ≤ 1050000; decide
  | some e =>
    have : ∃ i, parts.get i = some e := by
      unfold fieldOf5 at ho
      split at ho
      · split at ho
        · cases ho
        · split at ho
          · exact ⟨_, ho⟩
          · cases ho
      · cases ho
    obtain ⟨i, hi⟩ := this
    have := Va.get_sz hi
    show (Va.cons e.1 e.2 .nil).sz ≤ 1050000
    omega
theorem el_sz_i {h : Hd} {parts : Va} (x : Int) (hs : (Va.cons h parts .nil).sz ≤ 1050000) : (Va.cons (el (indexOf5 h parts x)).1 (el (indexOf5 h parts x)).2 .nil).sz ≤ 1050000 := by
  simp only [Va.sz] at hs
  cases ho : indexOf5 h parts x with
  | none => show (Va.cons zeroH .nil .nil).sz ≤ 1050000; decide
  | some e =>
    have : ∃ i, parts.get i = some e := by
      unfold indexOf5 at ho
      split at ho
      · exact ⟨_, ho⟩
      · cases ho
    obtain ⟨i, hi⟩ := this
    have := Va.get_sz hi
    show (Va.cons e.1 e.2 .nil).sz ≤ 1050000
    omega
/-! ### The law of parts -/
theorem num_at (o : Option (Hd × Va)) (S : Sto) : CallR ap 14 [.int .i64 (ce o)] S = some (.ret (.int .i64 (ce o)), S) := num_spec _ _

theorem gs {no : Option Res} {yes : Bool → Option Res} {b : Bool} : gOn (some b) no yes = yes b := rfl
theorem parts_at {h : Hd} {parts : Va} {cs : List AV} (h1 : One h parts cs) (hcl : Cleans cs) (hs : (Va.cons h parts .nil).sz ≤ 1050000) (nm : ByteArray) (ix : Int) : CallR ap 7 [.agg cs, .str nm, .int .i64 ix] [] = some (.ret (.bool true), []) := by
  have hs' := hs
  simp only [Va.sz] at hs'
  have c6 : cs.length = 6 := by obtain ⟨a, p, rfl, _⟩ := h1; rfl
  have hk : ∀ S : Sto, Keeps ([] : Sto).length [] S := fun S => ⟨by simp, fun i hi => by simp at hi⟩
  have ez : [AV.int .i64 0, .bool false, .int .i64 0, .str ⟨#[]⟩, .nils, .nils] = zeroV := rfl
  have hL := lend_one h1
  obtain ⟨A, hA⟩ : ∃ A, A = ([] : Sto) ++ [Ob.cells 0 cs 0] := ⟨_, rfl⟩
  have hAl : A.length = 1 := by rw [hA]; rfl
  obtain ⟨B, hB⟩ : ∃ B, B = A ++ [Ob.cells 0 (lendV h parts) 0] := ⟨_, rfl⟩
  have hBl : B.length = 2 := by rw [hB]; simp [hAl]
  have gB0 : B[0]? = some (.cells 0 cs 0) := by rw [hB, hA]; rfl
  have gB1 : B[1]? = some (.cells 0 (lendV h parts) 0) := by rw [hB, hA]; rfl
  have lA : ld true 6 A (.mp 0 0 0) = some (.agg cs) := by rw [hA]; exact m_all (g := 0) (fz := 0) (by simp) c6
  have sB : sto 6 (A ++ [Ob.cells 0 zeroV 0]) (.mp A.length 0 0) (.agg (lendV h parts)) = some B := by rw [hB]; exact m_new (cs := zeroV) (cs' := lendV h parts) rfl rfl rfl
  -- what is held from B on
  have base : ∀ T : Sto, (∀ j, j < 2 → T[j]? = B[j]?) → ld true 6 T (.mp 0 0 0) = some (.agg cs) ∧ ld true 6 T (.mp A.length 0 0) = some (.agg (lendV h parts)) := fun T hT => ⟨m_all ((hT 0 (by omega)).trans gB0) c6, by rw [hAl]; exact m_all ((hT 1 (by omega)).trans gB1) rfl⟩
  obtain ⟨o1, ho1⟩ : ∃ o, o = fieldOf5 h parts nm := ⟨_, rfl⟩
  obtain ⟨o2, ho2⟩ : ∃ o, o = indexOf5 h parts ix := ⟨_, rfl⟩
  have z1 := el_sz_f (h := h) (parts := parts) nm hs
  have z2 := el_sz_i (h := h) (parts := parts) ix hs
  rw [← ho1] at z1
  rw [← ho2] at z2
  have new6 : ∀ (S : Sto) (ws : List AV), ws.all AV.isCell = true → ws.length = 6 → sto 6 (S ++ [Ob.cells 0 zeroV 0]) (.mp S.length 0 0) (.agg ws) = some (S ++ [Ob.cells 0 ws 0]) := fun S ws a b => m_new (cs := zeroV) (cs' := ws) a b rfl
  -- four parts of the program
  have F1 := fieldM_spec hL hs nm B
  rw [← ho1] at F1
  obtain ⟨r1, S1, lo1, hi1, f1, m1, a1, b1, k1⟩ := F1
  obtain ⟨T1, hT1⟩ : ∃ T, T = S1 ++ [Ob.cells 0 r1 0] := ⟨_, rfl⟩
  have tl1 : T1.length = S1.length + 1 := by rw [hT1]; simp
  have n1 := new6 S1 r1 m1.all m1.len
  rw [← hT1] at n1
  have F2 := fieldM_spec hL hs nm T1
  rw [← ho1] at F2
  obtain ⟨r2, S2, lo2, hi2, f2, m2, a2, b2, k2⟩ := F2
  obtain ⟨T2, hT2⟩ : ∃ T, T = S2 ++ [Ob.cells 0 r2 0] := ⟨_, rfl⟩
  have tl2 : T2.length = S2.length + 1 := by rw [hT2]; simp
  have n2 := new6 S2 r2 m2.all m2.len
  rw [← hT2] at n2
  have F3 := indexM_spec hL hs ix T2
  rw [← ho2] at F3
  obtain ⟨r3, S3, lo3, hi3, f3, m3, a3, b3, k3⟩ := F3
  obtain ⟨T3, hT3⟩ : ∃ T, T = S3 ++ [Ob.cells 0 r3 0] := ⟨_, rfl⟩
  have tl3 : T3.length = S3.length + 1 := by rw [hT3]; simp
  have n3 := new6 S3 r3 m3.all m3.len
  rw [← hT3] at n3
  have F4 := indexM_spec hL hs ix T3
  rw [← ho2] at F4
  obtain ⟨r4, S4, lo4, hi4, f4, m4, a4, b4, k4⟩ := F4
  obtain ⟨T4, hT4⟩ : ∃ T, T = S4 ++ [Ob.cells 0 r4 0] := ⟨_, rfl⟩
  have tl4 : T4.length = S4.length + 1 := by rw [hT4]; simp
  have n4 := new6 S4 r4 m4.all m4.len
  rw [← hT4] at n4
  -- two of the document
  have G1 := refField_spec h1 hcl (show nsz h.names ≤ 1050000 by omega) nm T4
  rw [← ho1] at G1
  obtain ⟨e1, g1, q1⟩ := G1
  obtain ⟨T5, hT5⟩ : ∃ T, T = T4 ++ [Ob.cells 0 e1 0] := ⟨_, rfl⟩
  have tl5 : T5.length = T4.length + 1 := by rw [hT5]; simp
  have el1 : e1.length = 6 := by obtain ⟨a, p, rfl, _⟩ := q1; rfl
  have n5 := new6 T4 e1 q1.all el1
  rw [← hT5] at n5
  have G2 := refIndex_spec h1 hcl ix T5
  rw [← ho2] at G2
  obtain ⟨e2, g2, q2⟩ := G2
  obtain ⟨T6, hT6⟩ : ∃ T, T = T5 ++ [Ob.cells 0 e2 0] := ⟨_, rfl⟩
  have tl6 : T6.length = T5.length + 1 := by rw [hT6]; simp
  have el2 : e2.length = 6 := by obtain ⟨a, p, rfl, _⟩ := q2; rfl
  have n6 := new6 T5 e2 q2.all el2
  rw [← hT6] at n6
  -- what stays
  have w1 := k1.len
  have w2 := k2.len
  have w3 := k3.len
  have w4 := k4.len
  have s1 : ∀ j, j < S1.length → T1[j]? = S1[j]? := fun j hj => by rw [hT1, List.getElem?_append_left hj]
  have s2 : ∀ j, j < S2.length → T2[j]? = S2[j]? := fun j hj => by rw [hT2, List.getElem?_append_left hj]
  have s3 : ∀ j, j < S3.length → T3[j]? = S3[j]? := fun j hj => by rw [hT3, List.getElem?_append_left hj]
  have s4 : ∀ j, j < S4.length → T4[j]? = S4[j]? := fun j hj => by rw [hT4, List.getElem?_append_left hj]
  have s5 : ∀ j, j < T4.length → T5[j]? = T4[j]? := fun j hj => by rw [hT5, List.getElem?_append_left hj]
  have s6 : ∀ j, j < T5.length → T6[j]? = T5[j]? := fun j hj => by rw [hT6, List.getElem?_append_left hj]
  have t64 : ∀ j, j < T4.length → T6[j]? = T4[j]? := fun j hj => by rw [s6 j (by omega), s5 j hj]
  have t63 : ∀ j, j < T3.length → T6[j]? = T3[j]? := fun j hj => by rw [t64 j (by omega), s4 j (by omega), k4.at_ j hj]
  have t62 : ∀ j, j < T2.length → T6[j]? = T2[j]? := fun j hj => by rw [t63 j (by omega), s3 j (by omega), k3.at_ j hj]
  have t61 : ∀ j, j < T1.length → T6[j]? = T1[j]? := fun j hj => by rw [t62 j (by omega), s2 j (by omega), k2.at_ j hj]
  have t60 : ∀ j, j < 2 → T6[j]? = B[j]? := fun j hj => by rw [t61 j (by omega), s1 j (by omega), k1.at_ j (by omega)]
  have v1 : ∀ j, j < 2 → T1[j]? = B[j]? := fun j hj => by rw [s1 j (by omega), k1.at_ j (by omega)]
  have v2 : ∀ j, j < 2 → T2[j]? = B[j]? := fun j hj => by rw [s2 j (by omega), k2.at_ j (by omega), v1 j hj]
  have v3 : ∀ j, j < 2 → T3[j]? = B[j]? := fun j hj => by rw [s3 j (by omega), k3.at_ j (by omega), v2 j hj]
  have v4 : ∀ j, j < 2 → T4[j]? = B[j]? := fun j hj => by rw [s4 j (by omega), k4.at_ j (by omega), v3 j hj]
  have v5 : ∀ j, j < 2 → T5[j]? = B[j]? := fun j hj => by rw [s5 j (by omega), v4 j hj]
  have gx1 : T6[S1.length]? = some (.cells 0 r1 0) := by rw [t61 _ (by omega), hT1]; simp
  have gx2 : T6[S2.length]? = some (.cells 0 r2 0) := by rw [t62 _ (by omega), hT2]; simp
  have gx3 : T6[S3.length]? = some (.cells 0 r3 0) := by rw [t63 _ (by omega), hT3]; simp
  have gx4 : T6[S4.length]? = some (.cells 0 r4 0) := by rw [t64 _ (by omega), hT4]; simp
  have gx5 : T6[T4.length]? = some (.cells 0 e1 0) := by rw [s6 _ (by omega), hT5]; simp
  have gx6 : T6[T5.length]? = some (.cells 0 e2 0) := by rw [hT6]; simp
  have M1 : RowM T6 _ r1 lo1 hi1 := m1.mono fun j _ hj => by rw [t61 j (by omega), s1 j (by omega)]
  have M2 : RowM T6 _ r2 lo2 hi2 := m2.mono fun j _ hj => by rw [t62 j (by omega), s2 j (by omega)]
  have M3 : RowM T6 _ r3 lo3 hi3 := m3.mono fun j _ hj => by rw [t63 j (by omega), s3 j (by omega)]
  have M4 : RowM T6 _ r4 lo4 hi4 := m4.mono fun j _ hj => by rw [t64 j (by omega), s4 j (by omega)]
  -- two are written over
  obtain ⟨U1, u1, ul1, uk1⟩ := spoilV_spec gx1 M1 (by omega) z1
  have y3 : U1[S3.length]? = some (.cells 0 r3 0) := by rw [uk1 _ (by omega) (by omega)]; exact gx3
  have N3 : RowM U1 _ r3 lo3 hi3 := M3.mono fun j hj1 hj2 => uk1 j (by omega) (by omega)
  obtain ⟨U2, u2, ul2, uk2⟩ := spoilV_spec y3 N3 (by omega) z2
  have uk : ∀ j, j ≠ S1.length → j ≠ S3.length → (j < lo1 ∨ hi1 ≤ j) → (j < lo3 ∨ hi3 ≤ j) → U2[j]? = T6[j]? := fun j h1 h2 h3 h4 => by rw [uk2 j h2 h4, uk1 j h1 h3]
  have N2 : RowM U2 _ r2 lo2 hi2 := M2.mono fun j hj1 hj2 => uk j (by omega) (by omega) (by omega) (by omega)
  have N4 : RowM U2 _ r4 lo4 hi4 := M4.mono fun j hj1 hj2 => uk j (by omega) (by omega) (by omega) (by omega)
  have y2 : U2[S2.length]? = some (.cells 0 r2 0) := by rw [uk _ (by omega) (by omega) (by omega) (by omega)]; exact gx2
  have y4 : U2[S4.length]? = some (.cells 0 r4 0) := by rw [uk _ (by omega) (by omega) (by omega) (by omega)]; exact gx4
  have y5 : U2[T4.length]? = some (.cells 0 e1 0) := by rw [uk _ (by omega) (by omega) (by omega) (by omega)]; exact gx5
  have y6 : U2[T5.length]? = some (.cells 0 e2 0) := by rw [uk _ (by omega) (by omega) (by omega) (by omega)]; exact gx6
  have bU := base U2 fun j hj => by rw [uk j (by omega) (by omega) (by omega) (by omega), t60 j hj]
  have tail : stencillaw5_ValueParts.p11111111101 0 A.length S1.length S2.length S3.length S4.length T4.length T5.length false T6 = some ⟨.ret (.bool true), none, U2⟩ := by
    rw [stencillaw5_ValueParts.p11111111101_eq]
    refine (bf rfl).trans ?_
    refine (cr u1).trans ?_
    refine (cr u2).trans ?_
    refine (br (m_all y2 m2.len)).trans ?_
    refine (br (m_all y5 el1)).trans ?_
    refine (cr (sameM_spec N2 (by omega) q1 z1)).trans ?_
    refine (br (show guardT (.bool true) = some (some true) from rfl)).trans ?_
    refine gs.trans ?_
    refine (bt rfl).trans ?_
    refine (br (m_all y4 m4.len)).trans ?_
    refine (br (m_all y6 el2)).trans ?_
    refine (cr (sameM_spec N4 (by omega) q2 z2)).trans ?_
    refine (br (aB _)).trans ?_
    refine (bt rfl).trans ?_
    refine (br bU.2).trans ?_
    refine (br bU.1).trans ?_
    refine (cr (keptValue_spec h1 hs U2)).trans ?_
    refine (br (aB _)).trans ?_
    refine (bt rfl).trans ?_
    refine (cr (awakeV U2)).trans ?_
    refine (br (aB _)).trans ?_
    rfl
  obtain ⟨b, hb⟩ := shallow_spec h1 (by omega) A
  rw [stencillaw5_ValueParts.call]
  suffices hf : ∃ st', stencillaw5_ValueParts.b (.agg cs) nm ix [] = some ⟨.ret (.bool true), none, st'⟩ by
    obtain ⟨st', hf⟩ := hf
    exact ret_keep hf rfl rfl (hk _)
  have e0 : ([] : Sto).length = 0 := rfl
  rw [stencillaw5_ValueParts.b_eq, agg_cells, if_pos h1.all, ez, ← hA, e0]
  have dce : ∀ o : Option (Hd × Va), (!decide (ce o = ce o)) = false := fun o => by simp
  cases b with
  | false =>
    refine ⟨A, ?_⟩
    refine (br lA).trans ?_
    refine (cr hb).trans ?_
    refine (br (aB _)).trans ?_
    exact bt rfl
  | true =>
    refine ⟨U2, ?_⟩
    refine (br lA).trans ?_
    refine (cr hb).trans ?_
    refine (br (aB _)).trans ?_
    refine (bf rfl).trans ?_
    refine (br lA).trans ?_
    refine (cr (lendValue_spec h1 hs A)).trans ?_
    refine (br sB).trans ?_
    refine (br (base B fun _ _ => rfl).2).trans ?_
    refine (cr f1).trans ?_
    refine (br (x0 _ _)).trans ?_
    refine (br (x1 _ _ _)).trans ?_
    refine (br n1).trans ?_
    refine (br (base T1 v1).2).trans ?_
    refine (cr f2).trans ?_
    refine (br (x0 _ _)).trans ?_
    refine (br (x1 _ _ _)).trans ?_
    refine (br n2).trans ?_
    refine (br (base T2 v2).2).trans ?_
    refine (cr f3).trans ?_
    refine (br (x0 _ _)).trans ?_
    refine (br (x1 _ _ _)).trans ?_
    refine (br n3).trans ?_
    refine (br (base T3 v3).2).trans ?_
    refine (cr f4).trans ?_
    refine (br (x0 _ _)).trans ?_
    refine (br (x1 _ _ _)).trans ?_
    refine (br n4).trans ?_
    refine (br (base T4 v4).1).trans ?_
    refine (cr g1).trans ?_
    refine (br (x0 _ _)).trans ?_
    refine (br (x1 _ _ _)).trans ?_
    refine (br n5).trans ?_
    refine (br (base T5 v5).1).trans ?_
    refine (cr g2).trans ?_
    refine (br (x0 _ _)).trans ?_
    refine (br (x1 _ _ _)).trans ?_
    refine (br n6).trans ?_
    refine (cr (num_at o1 T6)).trans ?_
    refine (br (aI _)).trans ?_
    refine (br (aI _)).trans ?_
    refine (bf (dce o1)).trans ?_
    refine (cr (num_at o1 T6)).trans ?_
    refine (br (aI _)).trans ?_
    refine (br (aI _)).trans ?_
    refine (bf (dce o1)).trans ?_
    refine (cr (num_at o2 T6)).trans ?_
    refine (br (aI _)).trans ?_
    refine (br (aI _)).trans ?_
    refine (bf (dce o2)).trans ?_
    refine (cr (num_at o2 T6)).trans ?_
    refine (br (aI _)).trans ?_
    refine (br (aI _)).trans ?_
    refine (bf (dce o2)).trans ?_
    refine (br (m_all gx1 m1.len)).trans ?_
    refine (br (m_all gx5 el1)).trans ?_
    refine (cr (sameM_spec M1 (by omega) q1 z1)).trans ?_
    refine (br (aB _)).trans ?_
    refine (bf rfl).trans ?_
    refine (br (m_all gx3 m3.len)).trans ?_
    refine (br (m_all gx6 el2)).trans ?_
    refine (cr (sameM_spec M3 (by omega) q2 z2)).trans ?_
    refine (br (aB _)).trans ?_
    exact tail
theorem parts_law {n : Nat} {l : List AV} (h : Shp ap n 25 l) (hb : bulks l ≤ 1048576) (nm : ByteArray) (ix : Int) : CallR ap 7 [.agg l, .str nm, .int .i64 ix] [] = some (.ret (.bool true), []) := by
  obtain ⟨hd, parts, h1, h2⟩ := val_shape n l h
  exact parts_at h1 (clean_shape n l h) (by omega) nm ix
end Go.Proofs.YtiiooldjegoikaaDoor
