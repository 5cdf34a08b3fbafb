/- LexJoins at the machine. -/
import Derived.Test.YtigdijdpggjpiaaDoorJ
namespace Go.Proofs.YtigdijdpggjpiaaDoor
open Go.St Go.Lib
set_option linter.unusedVariables false
set_option linter.unusedSimpArgs false

/-- What of a row is read. -/
structure Reads (st : Sto) (x : AV) (ts : List Tk) : Prop where
  len : lenL x = some ts.length
  at_ : ∀ j t, ts[j]? = some t → ∃ p, ia 4 x (.int .i64 (j : Nat)) = some p ∧ ld true 4 st p = some (.agg (tcell t))
theorem Row.reads {n : Nat} {st : Sto} {x : AV} {ts : List Tk} (h : Row n st x ts) : Reads st x ts :=
  ⟨h.len, fun j t ht => by obtain ⟨id, g, o, a1, a2, _⟩ := h.at ht; exact ⟨_, a1, a2⟩⟩
theorem Row.cut {n : Nat} {st : Sto} {x : AV} {ts : List Tk} (h : Row n st x ts) {k : Nat} (hk : k ≤ ts.length) (hne : ts ≠ []) : ∃ y, cutL 4 x none (some (.int .i64 (k : Nat))) = some y ∧ Reads st y (ts.take k) := by
  rcases h with ⟨_, h⟩ | ⟨id, g, h1, rfl, h3⟩
  · exact absurd h hne
  · have b1 : bnd ts.length ts.length (some (.int .i64 ((k : Nat) : Int))) = some k := bnd_int hk
    have b2 : bnd 0 k none = some 0 := rfl
    have hl := tcells_len ts
    refine ⟨.ms id g (0 + 0 * 4) (k - 0) 4, by simp only [cutL, b1, b2, Option.bind_some, if_true], ?_, ?_⟩
    · show some (k - 0) = _
      rw [List.length_take]
      congr 1
      omega
    · intro j t ht
      have hj := (List.getElem?_eq_some_iff.1 ht).1
      rw [List.length_take] at hj
      rw [List.getElem?_take, if_pos (by omega)] at ht
      have hd := tcells_at ht
      have hle : j * 4 + 4 ≤ (tcells ts).length := by omega
      refine ⟨.mp id g (0 + 0 * 4 + j * 4), by simp only [ia, if_true, idx_nat (show j < k - 0 by omega), Option.bind_some], ?_⟩
      simp only [ld, ldCells, h3, Nat.zero_add, Nat.zero_mul, hle, and_self, if_true, Option.bind_some, hd, pack]
      rfl

theorem same_loop {st : Sto} {x y : AV} {ts us : List Tk} (hx : Reads st x ts) (hy : Reads st y us) (hl : ts.length = us.length) (hb : ts.length ≤ 1000000) : ∀ (m j : Nat), j + m = ts.length →
    stencillaw0_SameTokens.p110100 x y ((j : Nat) : Int) st = some ⟨.ret (.bool (decide (ts.drop j = us.drop j))), none, st⟩ := by
  intro m
  induction m with
  | zero =>
    intro j hj
    have e : ¬ (((j : Nat) : Int) < ((ts.length : Nat) : Int)) := by omega
    rw [stencillaw0_SameTokens.p110100_eq]
    simp only [hx.len, Option.bind_some, e, decide_false, cond_false]
    rw [List.drop_of_length_le (by omega), List.drop_of_length_le (by omega)]
    rfl
  | succ m ih =>
    intro j hj
    have hlt : j < ts.length := by omega
    have hlt' : j < us.length := by omega
    have e : (((j : Nat) : Int) < ((ts.length : Nat) : Int)) := by omega
    obtain ⟨p, a1, a2⟩ := hx.at_ j _ (List.getElem?_eq_getElem hlt)
    obtain ⟨q, b1, b2⟩ := hy.at_ j _ (List.getElem?_eq_getElem hlt')
    have hw : IntKind.wrap .i64 (((j : Nat) : Int) + 1) = ((j + 1 : Nat) : Int) := w64 _ (by omega) (by omega)
    rw [stencillaw0_SameTokens.p110100_eq]
    simp only [hx.len, Option.bind_some, e, decide_true, cond_true, a1, a2, b1, b2, eq_tok]
    rw [List.drop_eq_getElem_cons hlt, List.drop_eq_getElem_cons hlt']
    by_cases h : ts[j] = us[j]
    · simp only [h, decide_true, Bool.not_true, cond_false, hw, ih (j + 1) (by omega), List.cons.injEq, true_and]
    · simp only [h, decide_false, Bool.not_false, cond_true, List.cons.injEq, false_and]
theorem same_spec {st : Sto} {x y : AV} {ts us : List Tk} (hx : Reads st x ts) (hy : Reads st y us) (hb : ts.length ≤ 1000000) :
    CallR ap 10 [x, y] st = some (.ret (.bool (decide (ts = us))), st) := by
  rw [stencillaw0_SameTokens.call]
  refine ret_keep ?_ rfl rfl (Keeps.refl _ _)
  rw [stencillaw0_SameTokens.b_eq]
  by_cases hl : ts.length = us.length
  · have e : (((ts.length : Nat) : Int) = ((us.length : Nat) : Int)) := by omega
    have := same_loop hx hy hl hb ts.length 0 (by omega)
    simp only [hx.len, hy.len, Option.bind_some, e, decide_true, Bool.not_true, cond_false]
    rw [List.drop_zero, List.drop_zero] at this
    exact this
  · have e : ¬ (((ts.length : Nat) : Int) = ((us.length : Nat) : Int)) := by omega
    simp only [hx.len, hy.len, Option.bind_some, e, decide_false, Bool.not_false, cond_true]
    rw [decide_eq_false fun h => hl (by rw [h])]

theorem Reads.keep {n m k : Nat} {st st' : Sto} {x : AV} {ts : List Tk} (h : Row n st x ts) (hk : Keeps st.length st st') : Reads st' x ts := (h.keep hk).reads

theorem joins_loop {P : ByteArray} {x y w : AV} {zs ys ws : List Tk} (hP : P.size ≤ 65536) (hws : ws = zs ++ (⟨8, [113], [], P.size⟩ :: ys.map (sh (P.size + 4)))) (hb : zs.length + ys.length ≤ 1000000) (hat : ∀ t ∈ ys, t.at_ ≤ 65536)
    (n1 n2 n3 : Nat) : ∀ (m j : Nat), j + m = ys.length → ∀ st : Sto, Row n1 st x zs → Row n2 st y ys → Row n3 st w ws →
    ∃ st', stencillaw12_LexJoins.p11111110100 P x y w ((j : Nat) : Int) st = some ⟨.ret (.bool true), none, st'⟩ ∧ Keeps st.length st st' := by
  intro m
  induction m with
  | zero =>
    intro j hj st hx hy hw
    have e : ¬ (((j : Nat) : Int) < ((ys.length : Nat) : Int)) := by omega
    have hg : ws[zs.length]? = some ⟨8, [113], [], P.size⟩ := by rw [hws]; simp
    obtain ⟨p, a1, a2⟩ := hw.reads.at_ _ _ hg
    have hag : aggA (fillA (fun i => ([(0, 1), (1, 1), (2, 1), (3, 1)] : List (Nat × Nat))[i]?) [.int .i64 0, .str ⟨#[]⟩, .str ⟨#[]⟩, .int .i64 0] [(0, (.int .i64 8)), (1, (.str ⟨#[113]⟩)), (3, (.int .i64 ((P.size : Nat) : Int)))]) = some (.agg (tcell ⟨8, [113], [], P.size⟩)) := rfl
    refine ⟨st, ?_, Keeps.refl _ _⟩
    rw [stencillaw12_LexJoins.p11111110100_eq]
    simp only [hx.len, hy.len, Option.bind_some, e, decide_false, cond_false, a1, a2, hag, eq_tok, decide_true]
  | succ m ih =>
    intro j hj st hx hy hw
    have hlt : j < ys.length := by omega
    have e : (((j : Nat) : Int) < ((ys.length : Nat) : Int)) := by omega
    obtain ⟨t, ht⟩ : ∃ t, ys[j]? = some t := ⟨_, List.getElem?_eq_getElem hlt⟩
    have hta : t.at_ ≤ 65536 := hat t (List.mem_of_getElem? ht)
    have hg : ws[zs.length + 1 + j]? = some (sh (P.size + 4) t) := by
      rw [hws, List.getElem?_append_right (by omega), show zs.length + 1 + j - zs.length = j + 1 by omega, List.getElem?_cons_succ, List.getElem?_map, ht]
      rfl
    obtain ⟨p, a1, a2⟩ := hw.reads.at_ _ _ hg
    have w1 : IntKind.wrap .i64 (((zs.length : Nat) : Int) + 1) = ((zs.length + 1 : Nat) : Int) := w64 _ (by omega) (by omega)
    have w2 : IntKind.wrap .i64 (((zs.length + 1 : Nat) : Int) + ((j : Nat) : Int)) = ((zs.length + 1 + j : Nat) : Int) := w64 _ (by omega) (by omega)
    have w3 : IntKind.wrap .i64 (((P.size + 4 + t.at_ : Nat) : Int) - ((P.size : Nat) : Int)) = ((4 + t.at_ : Nat) : Int) := w64 _ (by omega) (by omega)
    have w4 : IntKind.wrap .i64 (((4 + t.at_ : Nat) : Int) - 4) = ((t.at_ : Nat) : Int) := w64 _ (by omega) (by omega)
    have w5 : IntKind.wrap .i64 (((j : Nat) : Int) + 1) = ((j + 1 : Nat) : Int) := w64 _ (by omega) (by omega)
    have s1 : sto 4 (st ++ [Ob.cells 0 [.int .i64 0, .str ⟨#[]⟩, .str ⟨#[]⟩, .int .i64 0] 0]) (.mp st.length 0 0) (.agg (tcell (sh (P.size + 4) t))) = some (st ++ [Ob.cells 0 (tcell (sh (P.size + 4) t)) 0]) :=
      sto_new (cs := [.int .i64 0, .str ⟨#[]⟩, .str ⟨#[]⟩, .int .i64 0]) (cs' := tcell (sh (P.size + 4) t)) rfl rfl rfl
    have g1 : (st ++ [Ob.cells 0 (tcell (sh (P.size + 4) t)) 0])[st.length]? = some (.cells 0 (tcell (sh (P.size + 4) t)) 0) := by simp
    have l1 : ld false 1 (st ++ [Ob.cells 0 (tcell (sh (P.size + 4) t)) 0]) (.mp st.length 0 3) = some (.int .i64 ((P.size + 4 + t.at_ : Nat) : Int)) := m_get (n := 3) g1 rfl
    have s2 : sto 1 (st ++ [Ob.cells 0 (tcell (sh (P.size + 4) t)) 0]) (.mp st.length 0 3) (.int .i64 ((t.at_ : Nat) : Int)) = some (st ++ [Ob.cells 0 (tcell t) 0]) := by
      rw [sto_at g1 (show 3 < 4 by decide) rfl rfl, List.set_append_right _ _ (Nat.le_refl _), Nat.sub_self]
      rfl
    obtain ⟨st1, hst1⟩ : ∃ st1, st1 = st ++ [Ob.cells 0 (tcell t) 0] := ⟨_, rfl⟩
    rw [← hst1] at s2
    have hk : Keeps st.length st st1 := by rw [hst1]; exact Keeps.app (Nat.le_refl _)
    have l2 : ld true 4 st1 (.mp st.length 0 0) = some (.agg (tcell t)) := m_all (g := 0) (fz := 0) (cs := tcell t) (by rw [hst1]; simp) rfl
    obtain ⟨q, b1, b2⟩ := (hy.keep hk).reads.at_ _ _ ht
    obtain ⟨st', n1, n2⟩ := ih (j + 1) (by omega) st1 (hx.keep hk) (hy.keep hk) (hw.keep hk)
    refine ⟨st', ?_, ⟨by have := n2.len; have := hk.len; omega, fun i hi => ?_⟩⟩
    · rw [stencillaw12_LexJoins.p11111110100_eq]
      simp only [hx.len, hy.len, Option.bind_some, e, decide_true, cond_true, w1, w2, a1, a2, s1, l1, asI, if_true, w3, w4, s2, l2, b1, b2, eq_tok, Bool.not_true, cond_false, w5, n1]
    · have := hk.len
      rw [n2.at_ i (by omega), hk.at_ i hi]

theorem seq_at {L : List UInt8} {hi : Nat} : ∀ {ts : List Tk} {lo : Nat}, Seq L lo ts hi → ∀ t ∈ ts, t.at_ < L.length := by
  intro ts
  induction ts with
  | nil => intro lo h t ht; simp at ht
  | cons u r ih =>
    intro lo h t ht
    rcases List.mem_cons.1 ht with rfl | ht
    · exact h.2.1
    · exact ih h.2.2.2 t ht

theorem joins_law (s t : ByteArray) (hs : s.size < 1152921504606846976) (ht : t.size < 1152921504606846976) : CallR ap 5 [.str s, .str t] [] = some (.ret (.bool true), []) := by
  obtain ⟨r, hr⟩ := scan_ex s s.size 0 (by omega) (Nat.zero_le _)
  obtain ⟨r2, hr2⟩ := scan_ex t t.size 0 (by omega) (Nat.zero_le _)
  have hl := lex_spec (by omega) hr []
  rw [stencillaw12_LexJoins.call]
  have w1 : IntKind.wrap .i64 (((s.size : Nat) : Int) + ((t.size : Nat) : Int)) = ((s.size + t.size : Nat) : Int) := w64 _ (by omega) (by omega)
  have w2 : IntKind.wrap .i64 (((s.size + t.size : Nat) : Int) + 4) = ((s.size + t.size + 4 : Nat) : Int) := w64 _ (by omega) (by omega)
  have yes : ∀ (x y : AV) (st : Sto), stencillaw12_LexJoins.p111101 s t x y true st = some ⟨.ret (.bool true), none, st⟩ := by
    intro x y st
    rw [stencillaw12_LexJoins.p111101_eq]
    rfl
  cases he : lexR s r with
  | error e =>
    obtain ⟨e1, e2, e3⟩ := lexR_err hr he
    have c1 : ¬ (((e.1 : Nat) : Int) = 0) := by omega
    rw [he] at hl
    have hl : CallR ap 7 [.str s] [] = some (.ret (.tup [.nils, .int .i64 (e.2 : Nat), .int .i64 (e.1 : Nat)]), []) := hl
    have hl2 := lex_spec (by omega) hr2 []
    cases he2 : lexR t r2 with
    | error e' =>
      rw [he2] at hl2
      have hl2 : CallR ap 7 [.str t] [] = some (.ret (.tup [.nils, .int .i64 (e'.2 : Nat), .int .i64 (e'.1 : Nat)]), []) := hl2
      refine ret_keep ?_ rfl rfl (Keeps.refl _ _)
      rw [stencillaw12_LexJoins.b_eq]
      simp only [awake_spec, Option.bind_some, Out.on, asB, Bool.not_true, cond_false, hl, hl2, ext, List.getElem?_cons_zero, List.getElem?_cons_succ, num, asI, if_true, c1, decide_false, Bool.not_false, cond_true, yes]
    | ok us =>
      rw [he2] at hl2
      obtain ⟨y, st2, k1, k2, k3⟩ := hl2
      refine ret_keep (st' := st2) ?_ rfl rfl k3
      rw [stencillaw12_LexJoins.b_eq]
      simp only [awake_spec, Option.bind_some, Out.on, asB, Bool.not_true, cond_false, hl, k1, ext, List.getElem?_cons_zero, List.getElem?_cons_succ, num, asI, if_true, c1, decide_false, Bool.not_false, cond_true, yes]
  | ok ts =>
    rw [he] at hl
    obtain ⟨x, st1, j1, j2, j3⟩ := hl
    have hl2 := lex_spec (by omega) hr2 st1
    cases he2 : lexR t r2 with
    | error e' =>
      obtain ⟨e1, e2, e3⟩ := lexR_err hr2 he2
      have c1 : ¬ (((e'.1 : Nat) : Int) = 0) := by omega
      rw [he2] at hl2
      have hl2 : CallR ap 7 [.str t] st1 = some (.ret (.tup [.nils, .int .i64 (e'.2 : Nat), .int .i64 (e'.1 : Nat)]), st1) := hl2
      refine ret_keep (st' := st1) ?_ rfl rfl j3
      rw [stencillaw12_LexJoins.b_eq]
      simp only [awake_spec, Option.bind_some, Out.on, asB, Bool.not_true, cond_false, j1, hl2, ext, List.getElem?_cons_zero, List.getElem?_cons_succ, num, asI, if_true, decide_true, c1, decide_false, Bool.not_false, cond_true, yes]
    | ok us =>
      rw [he2] at hl2
      obtain ⟨y, st2, k1, k2, k3⟩ := hl2
      have k3' : Keeps 0 st1 st2 := ⟨k3.len, fun i hi => by omega⟩
      have start : stencillaw12_LexJoins.b s t [] = stencillaw12_LexJoins.p111101 s t x y (decide ((65536 : Int) < ((s.size + t.size + 4 : Nat) : Int))) st2 := by
        rw [stencillaw12_LexJoins.b_eq]
        simp only [awake_spec, Option.bind_some, Out.on, asB, Bool.not_true, cond_false, j1, k1, ext, List.getElem?_cons_zero, List.getElem?_cons_succ, num, asI, if_true, decide_true, w1, w2]
      by_cases hbig : 65536 < s.size + t.size + 4
      · have c1 : ((65536 : Int) < ((s.size + t.size + 4 : Nat) : Int)) := by omega
        refine ret_keep (st' := st2) ?_ rfl rfl (j3.trans k3')
        rw [start, decide_eq_true c1, yes]
      · have c1 : ¬ ((65536 : Int) < ((s.size + t.size + 4 : Nat) : Int)) := by omega
        obtain ⟨h1, rfl, h3⟩ := lexR_ok he
        obtain ⟨h1', rfl, h3'⟩ := lexR_ok he2
        obtain ⟨cl, hcl⟩ : ∃ cl : ByteArray, cl = ⟨#[60, 47, 113, 62]⟩ := ⟨_, rfl⟩
        have hcs : cl.size = 4 := by rw [hcl]; rfl
        have hsc : Scan cl 0 none := by
          rw [hcl]
          exact scan_ascii (s := ⟨#[60, 47, 113, 62]⟩) (by
            have : ∀ i : Fin 4, bat ⟨#[60, 47, 113, 62]⟩ i.1 < 128 := by decide
            exact fun i hi => this ⟨i, hi⟩) 4 0 rfl
        have hscan : Scan ((s ++ cl) ++ t) 0 none := scan_join (scan_join hr rfl hsc) rfl hr2
        have hjoin := join_lex h3 h3'
        have hdata : ((s ++ cl) ++ t).data.toList = s.data.toList ++ (close ++ t.data.toList) := by
          rw [hcl]
          simp [close]
        have hsz : ((s ++ cl) ++ t).size = s.size + 4 + t.size := by rw [ByteArray.size_append, ByteArray.size_append, hcs]
        obtain ⟨ws, hws⟩ : ∃ ws, ws = ts ++ (⟨8, [113], [], s.size⟩ :: us.map (sh (s.size + 4))) := ⟨_, rfl⟩
        rw [← hdata, ← size_list, ← hws] at hjoin
        have hlex : lexR ((s ++ cl) ++ t) none = .ok ws := by
          unfold lexR
          rw [if_neg (by omega)]
          show lexM _ _ _ = _
          exact lexM_mono (by omega) hjoin
        have hl3 := lex_spec (by omega) hscan st2
        rw [hlex] at hl3
        obtain ⟨w, st3, p1, p2, p3⟩ := hl3
        have jx := j2.keep k3
        have jx3 := jx.keep p3
        have ky3 := k2.keep p3
        have z1 : s.size + cl.size ≤ 9223372036854775807 := by omega
        have z2 : (s ++ cl).size + t.size ≤ 9223372036854775807 := by rw [ByteArray.size_append]; omega
        have hne : ws ≠ [] := by rw [hws]; simp
        have hlw : ws.length = ts.length + us.length + 1 := by rw [hws]; simp; omega
        have hb1 := lexM_len h3 (Nat.zero_le _)
        have hb2 := lexM_len h3' (Nat.zero_le _)
        rw [← size_list] at hb1 hb2
        obtain ⟨v, c2, c3⟩ := p2.cut (k := ts.length) (by omega) hne
        have htk : ws.take ts.length = ts := by rw [hws]; simp
        rw [htk] at c3
        have hsame := same_spec c3 jx3.reads (by omega)
        rw [decide_eq_true rfl] at hsame
        obtain ⟨⟨hi, hq⟩, _⟩ := lex_seq h3'
        obtain ⟨st4, l1, l2⟩ := joins_loop (P := s) h1 hws (by omega) (fun u hu => by have := seq_at hq u hu; rw [← size_list] at this; omega) _ _ _ us.length 0 (by omega) st3 jx3 ky3 p2
        have w3 : IntKind.wrap .i64 (((ts.length : Nat) : Int) + ((us.length : Nat) : Int)) = ((ts.length + us.length : Nat) : Int) := w64 _ (by omega) (by omega)
        have w4 : IntKind.wrap .i64 (((ts.length + us.length : Nat) : Int) + 1) = ((ts.length + us.length + 1 : Nat) : Int) := w64 _ (by omega) (by omega)
        refine ret_keep (st' := st4) ?_ rfl rfl (j3.trans (k3'.trans ⟨by have := p3.len; have := l2.len; omega, fun i hi => by simp at hi⟩))
        rw [start, decide_eq_false c1, stencillaw12_LexJoins.p111101_eq, ← hcl]
        simp only [cond_false, z1, z2, if_true, p1, Option.bind_some, Out.on, ext, List.getElem?_cons_zero, List.getElem?_cons_succ, num, asI, decide_true, Bool.not_true, p2.len, jx3.len, ky3.len, w3, w4, hlw, c2, hsame, asB]
        rw [stencillaw12_LexJoins.p11111101_eq]
        exact l1
end Go.Proofs.YtigdijdpggjpiaaDoor
