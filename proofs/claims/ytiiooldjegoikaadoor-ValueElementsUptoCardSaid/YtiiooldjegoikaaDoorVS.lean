/- Values: Same; texts and keys; elements. -/
import Derived.Test.YtiiooldjegoikaaDoorVL
namespace Go.Proofs.YtiiooldjegoikaaDoor
open Go.St Go.Lib
set_option linter.unusedVariables false
set_option linter.unusedSimpArgs false

open Classical in
/-- Two values, but for their parts. -/
noncomputable def sameH (x y : Hd) : Bool :=
  decide (x.k = y.k) && (if x.k = 2 then (x.b == y.b) else if x.k = 3 then decide (x.n = y.n) else if x.k = 4 then decide (x.s = y.s) else if x.k = 6 then decide (x.names = y.names) else true)
/-- Rows of values. -/
noncomputable def sm : Va → Va → Bool
  | .nil, .nil => true
  | .cons x px rx, .cons y py ry => (sameH x y && (if x.k = 5 ∨ x.k = 6 then sm px py else true)) && sm rx ry
  | _, _ => false
noncomputable def same1 (x : Hd) (px : Va) (y : Hd) (py : Va) : Bool := sameH x y && (if x.k = 5 ∨ x.k = 6 then sm px py else true)

theorem sm_len : ∀ (a b : Va), a.len ≠ b.len → sm a b = false := by
  intro a
  induction a with
  | nil => intro b h; cases b with
    | nil => exact absurd rfl h
    | cons => rfl
  | cons x px rx ihp ihr => intro b h; cases b with
    | nil => rfl
    | cons y py ry =>
      simp only [Va.len] at h
      simp only [sm, ihr ry (by omega), Bool.and_false]

open Classical in
theorem equal_loop {l1 l2 : List ByteArray} {v w : AV} (hv : NamV l1 v) (hw : NamV l2 w) (hl : l1.length = l2.length) (hs : l1.length ≤ 1050000) (st : Sto) :
    ∀ (s1 s2 p1 p2 : List ByteArray), l1 = p1 ++ s1 → l2 = p2 ++ s2 → p1.length = p2.length → slices_Equal_string_string.p110100 v w ((l1.length : Nat) : Int) ((p1.length : Nat) : Int) st = some ⟨.ret (.bool (decide (s1 = s2))), none, st⟩ := by
  intro s1
  induction s1 with
  | nil =>
    intro s2 p1 p2 h1 h2 hp
    have : s2 = [] := List.eq_nil_of_length_eq_zero (by rw [h1, h2] at hl; simp at hl; omega)
    subst this
    rw [slices_Equal_string_string.p110100_eq]
    rw [List.append_nil] at h1
    simp only [h1, Int.lt_irrefl, decide_false, cond_false, decide_true]
  | cons x r ih =>
    intro s2 p1 p2 h1 h2 hp
    cases s2 with
    | nil => rw [h1, h2] at hl; simp at hl; omega
    | cons y t =>
      have hlt : (((p1.length : Nat) : Int) < ((l1.length : Nat) : Int)) := by rw [h1]; simp; omega
      have hlen : p1.length < l1.length := by rw [h1]; simp
      have hwr : IntKind.wrap .i64 (((p1.length : Nat) : Int) + 1) = (((p1 ++ [x]).length : Nat) : Int) := by
        rw [w64 (p1.length + 1) (by omega) (by omega)]
        simp
      have nxt := ih t (p1 ++ [x]) (p2 ++ [y]) (by rw [h1]; simp) (by rw [h2]; simp) (by simp [hp])
      have i1 := nam_at (pre := p1) (suf := r) (x := x) (v := v) (by rw [← h1]; exact hv) (i := ((p1.length : Nat) : Int)) rfl
      have i2 := nam_at (pre := p2) (suf := t) (x := y) (v := w) (by rw [← h2]; exact hw) (i := ((p1.length : Nat) : Int)) (by omega)
      rw [slices_Equal_string_string.p110100_eq]
      simp only [hv.len, Option.bind_some, hlt, decide_true, cond_true, i1, i2, ld1, asS, hwr, nxt]
      by_cases hxy : x = y
      · subst hxy
        simp
      · simp [hxy]
open Classical in
theorem equal_spec {l1 l2 : List ByteArray} {v w : AV} (hv : NamV l1 v) (hw : NamV l2 w) (hs : l1.length ≤ 1050000) (st : Sto) : CallR ap 43 [v, w] st = some (.ret (.bool (decide (l1 = l2))), st) := by
  rw [slices_Equal_string_string.call]
  refine ret_keep ?_ rfl rfl (Keeps.refl _ _)
  rw [slices_Equal_string_string.b_eq]
  have c : (((l1.length : Nat) : Int) = ((l2.length : Nat) : Int)) ↔ l1.length = l2.length := by omega
  simp only [hv.len, hw.len, Option.bind_some, c]
  by_cases hl : l1.length = l2.length
  · have := equal_loop hv hw hl hs st l1 l2 [] [] rfl rfl rfl
    simp only [List.length_nil, Int.natCast_zero] at this
    simp only [hl] at this ⊢
    simp only [decide_true, Bool.not_true, cond_false, this]
  · have : l1 ≠ l2 := fun e => hl (by rw [e])
    simp only [hl, this, decide_false, Bool.not_false, cond_true]

/-! ### Pairs that are left -/
structure Pd where
  v : AV
  w : AV
  x : Hd
  px : Va
  y : Hd
  py : Va
def Pd.ok (n : Nat) (st : Sto) (a : Pd) : Prop := ∃ cs ds, Pt n st a.v cs ∧ One a.x a.px cs ∧ Pt n st a.w ds ∧ One a.y a.py ds ∧ a.v.isCell = true ∧ a.w.isCell = true ∧ a.v.cells = [a.v] ∧ a.w.cells = [a.w]
noncomputable def Pd.same (a : Pd) : Bool := same1 a.x a.px a.y a.py
def Pd.sz (a : Pd) : Nat := (Va.cons a.x a.px .nil).sz + (Va.cons a.y a.py .nil).sz
def pcells : List Pd → List AV
  | [] => []
  | a :: r => a.v :: a.w :: pcells r
def psz : List Pd → Nat
  | [] => 0
  | a :: r => a.sz + psz r
theorem pcells_len (l : List Pd) : (pcells l).length = l.length * 2 := by
  induction l with
  | nil => rfl
  | cons a r ih => simp only [pcells, List.length_cons, ih]; omega
theorem pcells_app (a b : List Pd) : pcells (a ++ b) = pcells a ++ pcells b := by
  induction a with
  | nil => rfl
  | cons x r ih => simp [pcells, ih]
theorem psz_app (a b : List Pd) : psz (a ++ b) = psz a + psz b := by
  induction a with
  | nil => simp [psz]
  | cons x r ih => simp only [List.cons_append, psz, ih]; omega
theorem psz_len (l : List Pd) : l.length ≤ psz l := by
  induction l with
  | nil => simp
  | cons a r ih => simp only [List.length_cons, psz, Pd.sz, Va.sz]; omega

theorem Pd.ok.mono {n : Nat} {st st' : Sto} {a : Pd} (h : a.ok n st) (k : Keeps n st st') : a.ok n st' := by
  obtain ⟨cs, ds, h1, h2, h3, h4, h5⟩ := h
  exact ⟨cs, ds, h1.mono k, h2, h3.mono k, h4, h5⟩

/-- The rows of two values are put behind the stack. -/
def PushOk (ts us : Va) : Prop := ∀ (n id g i L : Nat) (st : Sto) (ps : List Pd) (junk : List AV) (v w p q : AV) (cs ds : List AV), n ≤ st.length → n ≤ id → st[id]? = some (.cells g (pcells ps ++ junk) 0) → ps.length + ts.len ≤ 1000000000 →
  Pt n st v cs → cs[5]? = some p → Pt n st w ds → ds[5]? = some q → Fr ts p i L → Fr us q i L → ts.sz ≤ 1050000 → us.sz ≤ 1050000 →
  ∃ g' junk' st' qs, value_Same.p11000101111010101100 (.ms id g 0 ps.length 2) v w true ((L : Nat) : Int) ((i : Nat) : Int) st = value_Same.p11000 (.ms id g' 0 (ps ++ qs).length 2) st' ∧ Keeps n st st' ∧ st'[id]? = some (.cells g' (pcells (ps ++ qs) ++ junk') 0) ∧ (∀ a ∈ qs, a.ok n st') ∧ qs.all Pd.same = sm ts us ∧ psz qs ≤ ts.sz + us.sz ∧ ∀ a ∈ qs, (Va.cons a.x a.px .nil).sz ≤ ts.sz ∧ (Va.cons a.y a.py .nil).sz ≤ us.sz

theorem push_all (ts : Va) : ∀ us : Va, PushOk ts us := by
  induction ts with
  | nil =>
    intro us n id g i L st ps junk v w p q cs ds hn hid hst hps hv hp hw hq hF hG hs1 hs2
    obtain ⟨hL, hiL, _, _, _, _⟩ := hF
    obtain ⟨_, hjL, _, _, _, _⟩ := hG
    simp only [Va.len, Nat.add_zero] at hiL
    have hus : us.len = 0 := by omega
    obtain rfl := len_nil hus
    subst hiL
    refine ⟨g, junk, st, [], ?_, Keeps.refl _ _, by simpa using hst, by simp, rfl, by simp [psz, Va.sz], by simp⟩
    rw [value_Same.p11000101111010101100_eq, value_Same.p110001011111_eq]
    simp
  | cons x px rx ihp ihr =>
    intro us n id g i L st ps junk v w p q cs ds hn hid hst hps hv hp hw hq hF hG hs1 hs2
    obtain ⟨hL, hiL, hL2, hpc, hpc2, hrow⟩ := hF
    obtain ⟨hM, hjL, _, hqc, hqc2, hrow2⟩ := hG
    simp only [Va.len] at hiL
    cases us with
    | nil => simp only [Va.len] at hjL; omega
    | cons y py ry =>
      simp only [Va.sz] at hs1 hs2
      obtain ⟨row, tok, rfl, hr⟩ : ∃ row tok, p = .is row L tok ∧ Row (.cons x px rx) (row.drop (i * 6)) := by
        rcases hrow with hrow | hrow
        · cases hrow
        · exact hrow
      obtain ⟨row2, tok2, rfl, hr2⟩ : ∃ row tok, q = .is row L tok ∧ Row (.cons y py ry) (row.drop (i * 6)) := by
        rcases hrow2 with hrow | hrow
        · cases hrow
        · exact hrow
      simp only [Va.len] at hjL
      obtain ⟨a, pl, hIn, hna, hpl, hr', hrl, hia⟩ := row_at hr
      have hia := hia L tok (by omega)
      obtain ⟨b, ql, hIn2, hnb, hql, hr2', hrl2, hib⟩ := row_at hr2
      have hib := hib L tok2 (by omega)
      have hlt : (((i : Nat) : Int) < ((L : Nat) : Int)) := by omega
      have w1 : IntKind.wrap .i64 (((i : Nat) : Int) + 1) = ((i + 1 : Nat) : Int) := w64 _ (by omega) (by omega)
      have g5 := hv.get (R := Res) 5 (.is row L tok) hp
      have k5 := hw.get (R := Res) 5 (.is row2 L tok2) hq
      have hag : (aggA (fillA (fun i => ([(0, 1), (1, 1)] : List (Nat × Nat))[i]?) [.nilp, .nilp] [(0, .ip (hcells x a pl)), (1, .ip (hcells y b ql))])) = some (.agg [.ip (hcells x a pl), .ip (hcells y b ql)]) := rfl
      have hli : ∀ s : Sto, (litS false 1 2 (fillA (fun i => some (i * 2, 2)) [.nilp, .nilp] [(0, .agg [.ip (hcells x a pl), .ip (hcells y b ql)])]) s) = some (.is [.ip (hcells x a pl), .ip (hcells y b ql)] 1 .full, s) := fun _ => rfl
      have hroom : room 16 (ps.length + 1) = true := by simp only [Va.len] at hps; simp [room]; omega
      have hpl2 := pcells_len ps
      have happ : appL false false 2 16 (.ms id g 0 ps.length 2) (.is [.ip (hcells x a pl), .ip (hcells y b ql)] 1 .full) st = some (.ms id (g + 1) 0 (ps.length + 1) 2, st.set id (.cells (g + 1) (pcells ps ++ [.ip (hcells x a pl), .ip (hcells y b ql)]) 0)) := by
        have htail : tailOf false 2 st (.is [.ip (hcells x a pl), .ip (hcells y b ql)] 1 .full) = some ([.ip (hcells x a pl), .ip (hcells y b ql)], 1) := rfl
        have hle : 0 + ps.length * 2 ≤ (pcells ps ++ junk).length := by rw [List.length_append, hpl2]; omega
        simp only [appL, htail, Option.bind_some, true_and, hroom, if_true, hst, hle, and_self, List.drop_zero]
        rw [← hpl2, List.take_left]
      obtain ⟨P, hP⟩ : ∃ P : Pd, P = ⟨.ip (hcells x a pl), .ip (hcells y b ql), x, px, y, py⟩ := ⟨_, rfl⟩
      have hcel : pcells ps ++ [.ip (hcells x a pl), .ip (hcells y b ql)] = pcells (ps ++ [P]) := by rw [pcells_app, hP]; rfl
      obtain ⟨st1, hst1⟩ : ∃ s, s = st.set id (.cells (g + 1) (pcells (ps ++ [P])) 0) := ⟨_, rfl⟩
      have hidl := (List.getElem?_eq_some_iff.1 hst).1
      have k1 : Keeps n st st1 := by rw [hst1]; exact Keeps.set hid
      have hg1 : st1[id]? = some (.cells (g + 1) (pcells (ps ++ [P]) ++ []) 0) := by rw [hst1, List.append_nil]; exact List.getElem?_set_self hidl
      simp only [Va.len] at hps
      obtain ⟨g', junk', st', qs, e1, e2, e3, e4, e5, e6, e7⟩ := ihr ry n id (g + 1) (i + 1) L st1 (ps ++ [P]) [] v w (.is row L tok) (.is row2 L tok2) cs ds (by rw [hst1]; simpa using hn) hid hg1 (by simp only [List.length_append, List.length_singleton]; omega) (hv.mono k1) hp (hw.mono k1) hq ⟨rfl, by omega, hL2, rfl, rfl, .inr ⟨row, tok, rfl, hr'⟩⟩ ⟨rfl, by omega, hL2, rfl, rfl, .inr ⟨row2, tok2, rfl, hr2'⟩⟩ (by omega) (by omega)
      refine ⟨g', junk', st', P :: qs, ?_, k1.trans e2, ?_, ?_, ?_, ?_, ?_⟩
      · rw [value_Same.p11000101111010101100_eq]
        simp only [hlt, decide_true, cond_true, hv.nk, hw.nk, Option.bind_some, g5, k5, hia, hib, hag, hli, happ, w1, hcel]
        rw [← hst1]
        have e0 : (ps ++ [P]).length = ps.length + 1 := by simp
        rw [e0] at e1
        rw [e1]
        simp
      · rw [e3]; simp
      · intro z hz
        rcases List.mem_cons.1 hz with rfl | hz
        · rw [hP]
          exact ⟨hcells x a pl, hcells y b ql, ⟨rfl, .inl rfl⟩, ⟨a, pl, rfl, hIn, hna, hpl⟩, ⟨rfl, .inl rfl⟩, ⟨b, ql, rfl, hIn2, hnb, hql⟩, rfl, rfl, rfl, rfl⟩
        · exact e4 z hz
      · rw [List.all_cons, e5, hP]
        simp only [Pd.same, same1, sm]
      · simp only [psz, hP, Pd.sz, Va.sz] at e6 ⊢
        omega
      · intro z hz
        rcases List.mem_cons.1 hz with rfl | hz
        · simp only [hP, Va.sz]; omega
        · have := e7 z hz
          simp only [Va.sz] at this ⊢
          omega

/-- All pairs that are left. -/
theorem left_all (n : Nat) : ∀ (m : Nat) (id g : Nat) (st : Sto) (ps : List Pd) (junk : List AV), psz ps ≤ m → m ≤ 2200000 → (∀ a ∈ ps, a.ok n st) → (∀ a ∈ ps, (Va.cons a.x a.px .nil).sz ≤ 1050000 ∧ (Va.cons a.y a.py .nil).sz ≤ 1050000) → n ≤ st.length → n ≤ id → st[id]? = some (.cells g (pcells ps ++ junk) 0) →
    ∃ st', value_Same.p11000 (.ms id g 0 ps.length 2) st = some ⟨.ret (.bool (ps.all Pd.same)), none, st'⟩ ∧ Keeps n st st' := by
  intro m
  induction m using Nat.strongRecOn with
  | ind m ih =>
    intro id g st ps junk hm hmm hok hsz hn hid hst
    have hlen := psz_len ps
    rcases List.eq_nil_or_concat ps with rfl | ⟨qs, P, rfl⟩
    · refine ⟨st, ?_, Keeps.refl _ _⟩
      rw [value_Same.p11000_eq]
      simp [lenL]
    · rw [List.concat_eq_append] at *
      obtain ⟨cs, ds, hv, h1, hw, h2, hvc, hwc, hvc2, hwc2⟩ := hok P (by simp)
      obtain ⟨hz1, hz2⟩ := hsz P (by simp)
      have hz1' := hz1
      have hz2' := hz2
      simp only [Va.sz] at hz1' hz2'
      rw [psz_app] at hm
      simp only [psz, Pd.sz, Va.sz] at hm
      rw [psz_app] at hlen
      simp only [List.length_append, List.length_singleton, psz, Pd.sz, Va.sz] at hlen
      have hl0 : lenL (.ms id g 0 (qs ++ [P]).length 2) = some (qs.length + 1) := by simp [lenL]
      have w0 : IntKind.wrap .i64 (((qs.length + 1 : Nat) : Int) - 1) = ((qs.length : Nat) : Int) := w64 _ (by omega) (by omega)
      have hia : ia 2 (.ms id g 0 (qs ++ [P]).length 2) (.int .i64 ((qs.length : Nat) : Int)) = some (.mp id g (qs.length * 2)) := by
        simp only [ia, if_true, idx_nat (show qs.length < (qs ++ [P]).length by simp), Option.bind_some, Nat.zero_add]
      have hcut : cutL 2 (.ms id g 0 (qs ++ [P]).length 2) none (some (.int .i64 ((qs.length : Nat) : Int))) = some (.ms id g 0 qs.length 2) := by
        have hb : bnd (qs ++ [P]).length (qs ++ [P]).length (some (.int .i64 ((qs.length : Nat) : Int))) = some qs.length := bnd_nat (by simp)
        simp only [cutL, hb, Option.bind_some]
        simp only [bnd, Option.bind_some, if_true, Nat.zero_mul, Nat.add_zero, Nat.sub_zero]
      have hpl := pcells_len qs
      have hv0 : (pcells (qs ++ [P]) ++ junk)[qs.length * 2]? = some P.v := by rw [pcells_app, ← hpl, List.append_assoc, List.getElem?_append_right (Nat.le_refl _)]; simp [pcells]
      have hw0 : (pcells (qs ++ [P]) ++ junk)[qs.length * 2 + 1]? = some P.w := by rw [pcells_app, ← hpl, List.append_assoc, List.getElem?_append_right (by omega)]; simp [pcells]
      have r0 := m_get hst hv0
      have r1 := m_get hst hw0
      have hst' : st[id]? = some (.cells g (pcells qs ++ ([P.v, P.w] ++ junk)) 0) := by rw [hst, pcells_app]; simp [pcells]
      have hnext := ih (psz qs) (by omega) id g st qs ([P.v, P.w] ++ junk) (Nat.le_refl _) (by omega) (fun a ha => hok a (by simp [ha])) (fun a ha => hsz a (by simp [ha])) hn hid hst'
      obtain ⟨a, pl, hcs, hIn, hna, hpp⟩ := h1
      obtain ⟨b, ql, hds, hIn2, hnb, hqq⟩ := h2
      have v0 := hv.get (R := Res) 0 (.int .i64 P.x.k) (by rw [hcs]; rfl)
      have v1 := hv.get (R := Res) 1 (.bool P.x.b) (by rw [hcs]; rfl)
      have v2 := hv.get (R := Res) 2 (.int .i64 P.x.n) (by rw [hcs]; rfl)
      have v3 := hv.get (R := Res) 3 (.str P.x.s) (by rw [hcs]; rfl)
      have v4 := hv.get (R := Res) 4 a (by rw [hcs]; rfl)
      have v5 := hv.get (R := Res) 5 pl (by rw [hcs]; rfl)
      have u0 := hw.get (R := Res) 0 (.int .i64 P.y.k) (by rw [hds]; rfl)
      have u1 := hw.get (R := Res) 1 (.bool P.y.b) (by rw [hds]; rfl)
      have u2 := hw.get (R := Res) 2 (.int .i64 P.y.n) (by rw [hds]; rfl)
      have u3 := hw.get (R := Res) 3 (.str P.y.s) (by rw [hds]; rfl)
      have u4 := hw.get (R := Res) 4 b (by rw [hds]; rfl)
      have u5 := hw.get (R := Res) 5 ql (by rw [hds]; rfl)
      have hall : (qs ++ [P]).all Pd.same = (P.same && qs.all Pd.same) := by rw [List.all_append, Bool.and_comm]; simp
      -- behind the switch
      have tl : ∀ t : Bool, ∃ st', value_Same.p110001011111 (.ms id g 0 qs.length 2) t st = some ⟨.ret (.bool (t && qs.all Pd.same)), none, st'⟩ ∧ Keeps n st st' := by
        intro t
        rw [value_Same.p110001011111_eq]
        cases t with
        | false => exact ⟨st, by simp, Keeps.refl _ _⟩
        | true => simpa using hnext
      -- the parts
      have pt : ∃ st', value_Same.p110001011110101 (.ms id g 0 qs.length 2) P.v P.w true st = some ⟨.ret (.bool (sm P.px P.py && qs.all Pd.same)), none, st'⟩ ∧ Keeps n st st' := by
        rw [value_Same.p110001011110101_eq]
        have c : (((P.px.len : Nat) : Int) = ((P.py.len : Nat) : Int)) ↔ P.px.len = P.py.len := by omega
        simp only [hv.nk, hw.nk, Option.bind_some, v5, u5, hpp.len, hqq.len, c]
        by_cases hl : P.px.len = P.py.len
        · have hF := Fr.of hpp (by omega)
          have hG := Fr.of hqq (by omega)
          rw [← hl] at hG
          obtain ⟨g', junk', st1, rs, e1, e2, e3, e4, e5, e6, e7⟩ := push_all P.px P.py n id g 0 P.px.len st qs ([P.v, P.w] ++ junk) P.v P.w pl ql cs ds hn hid hst' (by have := len_sz P.px; omega) hv (by rw [hcs]; rfl) hw (by rw [hds]; rfl) hF hG (by omega) (by omega)
          rw [show ((0 : Nat) : Int) = 0 from rfl] at e1
          simp only [hl, decide_true, Bool.not_true, cond_false]
          rw [hl] at e1
          rw [e1]
          have hrl := psz_len rs
          obtain ⟨st2, f1, f2⟩ := ih (psz (qs ++ rs)) (by rw [psz_app]; omega) id g' st1 (qs ++ rs) junk' (Nat.le_refl _) (by rw [psz_app]; omega) (fun z hz => by
            rcases List.mem_append.1 hz with hz | hz
            · exact (hok z (by simp [hz])).mono e2
            · exact e4 z hz) (fun z hz => by
            rcases List.mem_append.1 hz with hz | hz
            · exact hsz z (by simp [hz])
            · have := e7 z hz
              omega) (by have := e2.len; omega) hid e3
          refine ⟨st2, ?_, e2.trans f2⟩
          rw [f1, List.all_append, e5, Bool.and_comm]
        · exact ⟨st, by simp [hl, sm_len _ _ hl], Keeps.refl _ _⟩
      rw [hall]
      have hpos : ((0 : Int) < ((qs.length + 1 : Nat) : Int)) := by omega
      have hf0 : fa 0 1 (.mp id g (qs.length * 2)) = some (.mp id g (qs.length * 2)) := rfl
      have hf1 : fa 1 1 (.mp id g (qs.length * 2)) = some (.mp id g (qs.length * 2 + 1)) := rfl
      rw [value_Same.p11000_eq]
      simp only [hl0, Option.bind_some, hpos, decide_true, cond_true, w0, hia, hf0, hf1, r0, r1, hcut, hv.nk, hw.nk, v0, v1, v2, v3, v4, u0, u1, u2, u3, u4, asI, asS, if_true, eqB, equal_spec hna hnb (show P.x.names.length ≤ 1050000 by have := nsz_len P.x.names; omega), Out.on, asB]
      have hsame : P.same = ((decide (P.x.k = P.y.k) && (if P.x.k = 2 then (P.x.b == P.y.b) else if P.x.k = 3 then decide (P.x.n = P.y.n) else if P.x.k = 4 then decide (P.x.s = P.y.s) else if P.x.k = 6 then decide (P.x.names = P.y.names) else true)) && (if P.x.k = 5 ∨ P.x.k = 6 then sm P.px P.py else true)) := rfl
      rw [hsame]
      by_cases hk : P.x.k = P.y.k
      · simp only [hk, decide_true, Bool.not_true, cond_false, Bool.true_and]
        by_cases k2 : P.y.k = 2
        · obtain ⟨s, z1, z2⟩ := tl (P.x.b == P.y.b)
          refine ⟨s, ?_, z2⟩
          have : ¬ ((2 : Int) = 5 ∨ (2 : Int) = 6) := by omega
          simp only [k2, decide_true, cond_true, if_true, this, if_false, Bool.and_true]
          exact z1
        · by_cases k3 : P.y.k = 3
          · obtain ⟨s, z1, z2⟩ := tl (decide (P.x.n = P.y.n))
            refine ⟨s, ?_, z2⟩
            have h5 : ¬ ((3 : Int) = 5 ∨ (3 : Int) = 6) := by omega
            have h6 : ¬ ((3 : Int) = 2) := by omega
            simp only [k3, h6, decide_true, decide_false, cond_true, cond_false, if_true, h5, if_false, Bool.and_true]
            exact z1
          · by_cases k4 : P.y.k = 4
            · obtain ⟨s, z1, z2⟩ := tl (decide (P.x.s = P.y.s))
              refine ⟨s, ?_, z2⟩
              have h5 : ¬ ((4 : Int) = 5 ∨ (4 : Int) = 6) := by omega
              have h6 : ¬ ((4 : Int) = 2) := by omega
              have h7 : ¬ ((4 : Int) = 3) := by omega
              simp only [k4, h6, h7, decide_true, decide_false, cond_true, cond_false, if_true, h5, if_false, Bool.and_true]
              exact z1
            · by_cases k6 : P.y.k = 6
              · obtain ⟨s, z1, z2⟩ := pt
                have h5 : ((6 : Int) = 5 ∨ (6 : Int) = 6) := by omega
                have h6 : ¬ ((6 : Int) = 2) := by omega
                have h7 : ¬ ((6 : Int) = 3) := by omega
                have h8 : ¬ ((6 : Int) = 4) := by omega
                simp only [k6, h6, h7, h8, decide_true, decide_false, cond_true, cond_false, if_true, h5, if_false]
                by_cases hnm : P.x.names = P.y.names
                · exact ⟨s, by simpa [hnm] using z1, z2⟩
                · exact ⟨st, by simp [hnm], Keeps.refl _ _⟩
              · by_cases k5 : P.y.k = 5
                · obtain ⟨s, z1, z2⟩ := pt
                  have h5 : ((5 : Int) = 5 ∨ (5 : Int) = 6) := by omega
                  have h6 : ¬ ((5 : Int) = 2) := by omega
                  have h7 : ¬ ((5 : Int) = 3) := by omega
                  have h8 : ¬ ((5 : Int) = 4) := by omega
                  have h9 : ¬ ((5 : Int) = 6) := by omega
                  refine ⟨s, ?_, z2⟩
                  simp only [k5, h6, h7, h8, h9, decide_true, decide_false, cond_true, cond_false, if_true, h5, if_false, Bool.true_and]
                  exact z1
                · obtain ⟨s, z1, z2⟩ := tl true
                  refine ⟨s, ?_, z2⟩
                  have h5 : ¬ (P.y.k = 5 ∨ P.y.k = 6) := by omega
                  simp only [k2, k3, k4, k5, k6, h5, decide_false, cond_false, if_false, Bool.true_and]
                  simpa using z1
      · exact ⟨st, by simp [hk], Keeps.refl _ _⟩
theorem same_spec {x y : Hd} {px py : Va} {cs ds : List AV} (h1 : One x px cs) (h2 : One y py ds) (hs1 : (Va.cons x px .nil).sz ≤ 1050000) (hs2 : (Va.cons y py .nil).sz ≤ 1050000) (st : Sto) : CallR ap 20 [.agg cs, .agg ds] st = some (.ret (.bool (same1 x px y py)), st) := by
  have l1 : cs.length = 6 := by obtain ⟨a, p, rfl, _⟩ := h1; rfl
  have l2 : ds.length = 6 := by obtain ⟨a, p, rfl, _⟩ := h2; rfl
  rw [value_Same.call]
  suffices hb : ∃ st', value_Same.b (.agg cs) (.agg ds) st = some ⟨.ret (.bool (same1 x px y py)), none, st'⟩ ∧ Keeps st.length st st' by
    obtain ⟨st', k1, k2⟩ := hb
    exact ret_keep k1 rfl rfl k2
  rw [value_Same.b_eq, agg_cells, agg_cells, if_pos h1.all, if_pos h2.all]
  obtain ⟨S, hSe⟩ : ∃ S, S = (st ++ [Ob.cells 0 cs 0]) ++ [Ob.cells 0 ds 0] := ⟨_, rfl⟩
  have e1 : (st ++ [Ob.cells 0 cs 0]).length = st.length + 1 := by simp
  have hS0 : S[st.length]? = some (.cells 0 cs 0) := by rw [hSe]; exact get_mid
  have hS1 : S[st.length + 1]? = some (.cells 0 ds 0) := by rw [hSe, ← e1]; exact get_last
  have hSl : S.length = st.length + 2 := by rw [hSe]; simp
  have hk0 : Keeps st.length st S := by rw [hSe, List.append_assoc]; exact Keeps.app (Nat.le_refl _)
  rw [← hSe, e1]
  have hag : (aggA (fillA (fun i => ([(0, 1), (1, 1)] : List (Nat × Nat))[i]?) [.nilp, .nilp] [(0, .mp st.length 0 0), (1, .mp (st.length + 1) 0 0)])) = some (.agg [.mp st.length 0 0, .mp (st.length + 1) 0 0]) := rfl
  have hli : (litS true 1 2 (fillA (fun i => some (i * 2, 2)) [.nilp, .nilp] [(0, .agg [.mp st.length 0 0, .mp (st.length + 1) 0 0])]) S) = some (.ms S.length 0 0 1 2, S ++ [.cells 0 [.mp st.length 0 0, .mp (st.length + 1) 0 0] 0]) := rfl
  simp only [hag, hli, Option.bind_some]
  obtain ⟨P, hP⟩ : ∃ P : Pd, P = ⟨.mp st.length 0 0, .mp (st.length + 1) 0 0, x, px, y, py⟩ := ⟨_, rfl⟩
  have hk1 : Keeps S.length S (S ++ [.cells 0 [.mp st.length 0 0, .mp (st.length + 1) 0 0] 0]) := Keeps.app (Nat.le_refl _)
  have hok : P.ok S.length (S ++ [.cells 0 [.mp st.length 0 0, .mp (st.length + 1) 0 0] 0]) := by
    rw [hP]
    refine Pd.ok.mono (st := S) ⟨cs, ds, ⟨l1, .inr ⟨st.length, by omega, rfl, hS0⟩⟩, h1, ⟨l2, .inr ⟨st.length + 1, by omega, rfl, hS1⟩⟩, h2, rfl, rfl, rfl, rfl⟩ hk1
  obtain ⟨st', k1, k2⟩ := left_all S.length (psz [P]) S.length 0 (S ++ [.cells 0 [.mp st.length 0 0, .mp (st.length + 1) 0 0] 0]) [P] [] (Nat.le_refl _) (by simp only [psz, hP, Pd.sz]; omega) (by simpa using hok) (by intro a ha; simp at ha; subst ha; rw [hP]; exact ⟨hs1, hs2⟩) (by simp) (Nat.le_refl _) (by simp [pcells, hP])
  refine ⟨st', ?_, ?_⟩
  · have : [P].all Pd.same = same1 x px y py := by simp [hP, Pd.same]
    rw [← this]
    exact k1
  · exact hk0.trans ⟨by have := k2.len; simp at this; omega, fun i hi => by rw [k2.at_ i (by omega), List.getElem?_append_left (by omega)]⟩

/-! ### Texts and keys -/
noncomputable def textOut (h : Hd) : ByteArray × Nat :=
  if h.k = 1 then (⟨#[]⟩, 0) else if h.k = 2 then (if h.b = true then ⟨#[116, 114, 117, 101]⟩ else ⟨#[102, 97, 108, 115, 101]⟩, 0) else if h.k = 3 then (mk (itoa h.n), 0) else if h.k = 4 then (h.s, 0) else (⟨#[]⟩, 504)
noncomputable def textAV (h : Hd) : AV := .tup [.str (textOut h).1, .int .i64 (((textOut h).2 : Nat) : Int)]

theorem textV_spec {h : Hd} {parts : Va} {cs : List AV} (h1 : One h parts cs) (st : Sto) : CallR ap 23 [.agg cs] st = some (.ret (textAV h), st) := by
  have hall := h1.all
  obtain ⟨a, p, hcs, hIn, ha, hp⟩ := h1
  rw [value_Text.call]
  refine ret_keep (st' := st ++ [Ob.cells 0 cs 0]) ?_ rfl rfl (Keeps.app (Nat.le_refl _))
  rw [value_Text.b_eq, agg_cells, if_pos hall]
  obtain ⟨S, hSe⟩ : ∃ S, S = st ++ [Ob.cells 0 cs 0] := ⟨_, rfl⟩
  have hS : S[st.length]? = some (.cells 0 cs 0) := by rw [hSe]; simp
  rw [← hSe]
  have g0 : ld false 1 S (.mp st.length 0 0) = some (.int .i64 h.k) := m_get hS (by rw [hcs]; rfl)
  have g1 : ld false 1 S (.mp st.length 0 1) = some (.bool h.b) := m_get hS (by rw [hcs]; rfl)
  have g2 : ld false 1 S (.mp st.length 0 2) = some (.int .i64 h.n) := m_get hS (by rw [hcs]; rfl)
  have g3 : ld false 1 S (.mp st.length 0 3) = some (.str h.s) := m_get hS (by rw [hcs]; rfl)
  simp only [g0, g1, g2, g3, Option.bind_some, asI, asB, if_true, text_spec hIn, Out.on, textAV, textOut]
  by_cases k1 : h.k = 1
  · simp [k1]
  · by_cases k2 : h.k = 2
    · cases hb : h.b <;> simp [k1, k2, hb]
    · by_cases k3 : h.k = 3
      · simp [k1, k2, k3]
      · by_cases k4 : h.k = 4
        · simp [k1, k2, k3, k4]
        · simp [k1, k2, k3, k4]
theorem refTextV_spec {h : Hd} {parts : Va} {cs : List AV} (h1 : One h parts cs) (st : Sto) : CallR ap 25 [.agg cs] st = some (.ret (textAV h), st) := by
  have hall := h1.all
  obtain ⟨a, p, hcs, hIn, ha, hp⟩ := h1
  rw [stencilref5_Text.call]
  refine ret_keep (st' := st ++ [Ob.cells 0 cs 0]) ?_ rfl rfl (Keeps.app (Nat.le_refl _))
  rw [stencilref5_Text.b_eq, agg_cells, if_pos hall]
  obtain ⟨S, hSe⟩ : ∃ S, S = st ++ [Ob.cells 0 cs 0] := ⟨_, rfl⟩
  have hS : S[st.length]? = some (.cells 0 cs 0) := by rw [hSe]; simp
  rw [← hSe]
  have g0 : ld false 1 S (.mp st.length 0 0) = some (.int .i64 h.k) := m_get hS (by rw [hcs]; rfl)
  have g1 : ld false 1 S (.mp st.length 0 1) = some (.bool h.b) := m_get hS (by rw [hcs]; rfl)
  have g2 : ld false 1 S (.mp st.length 0 2) = some (.int .i64 h.n) := m_get hS (by rw [hcs]; rfl)
  have g3 : ld false 1 S (.mp st.length 0 3) = some (.str h.s) := m_get hS (by rw [hcs]; rfl)
  simp only [g0, g1, g2, g3, Option.bind_some, asI, asB, if_true, refText_spec hIn, Out.on, textAV, textOut]
  by_cases k1 : h.k = 1
  · simp [k1]
  · by_cases k2 : h.k = 2
    · cases hb : h.b <;> simp [k1, k2, hb]
    · by_cases k3 : h.k = 3
      · simp [k1, k2, k3]
      · by_cases k4 : h.k = 4
        · simp [k1, k2, k3, k4]
        · simp [k1, k2, k3, k4]

def keyCells (h : Hd) : List AV := if h.k = 3 then [.int .i64 3, .int .i64 h.n, .str ⟨#[]⟩] else if h.k = 4 then [.int .i64 4, .int .i64 0, .str h.s] else [.int .i64 0, .int .i64 0, .str ⟨#[]⟩]
def keyErr (h : Hd) : Nat := if h.k = 3 then 0 else if h.k = 4 then 0 else 505
def keyAV (h : Hd) : AV := .tup [.agg (keyCells h), .int .i64 ((keyErr h : Nat) : Int)]
theorem keyAV_keep (h : Hd) (n : Nat) : (keyAV h).strip n = keyAV h ∧ (keyAV h).old n = true := by
  unfold keyAV keyCells
  split
  · exact ⟨rfl, rfl⟩
  · split
    · exact ⟨rfl, rfl⟩
    · exact ⟨rfl, rfl⟩

theorem key_spec {h : Hd} {parts : Va} {cs : List AV} (h1 : One h parts cs) (st : Sto) : CallR ap 24 [.agg cs] st = some (.ret (keyAV h), st) := by
  have hall := h1.all
  obtain ⟨a, p, hcs, hIn, ha, hp⟩ := h1
  rw [value_KeyOf.call]
  suffices hb : ∃ st', value_KeyOf.b (.agg cs) st = some ⟨.ret (keyAV h), none, st'⟩ ∧ Keeps st.length st st' by
    obtain ⟨st', k1, k2⟩ := hb
    exact ret_keep k1 (keyAV_keep h _).1 (keyAV_keep h _).2 k2
  rw [value_KeyOf.b_eq, agg_cells, if_pos hall]
  have e1 : (st ++ [Ob.cells 0 cs 0]).length = (st ++ [Ob.cells 0 cs 0]).length := rfl
  have hS : ((st ++ [Ob.cells 0 cs 0]) ++ [Ob.cells 0 [.int .i64 0, .int .i64 0, .str ⟨#[]⟩] 0])[st.length]? = some (.cells 0 cs 0) := get_mid
  have g0 := m_get (n := 0) (x := .int .i64 h.k) hS (by rw [hcs]; rfl)
  have g2 := m_get (n := 2) (x := .int .i64 h.n) hS (by rw [hcs]; rfl)
  have g3 := m_get (n := 3) (x := .str h.s) hS (by rw [hcs]; rfl)
  have a3 : ∀ n : Int, (aggA (fillA (fun i => ([(0, 1), (1, 1), (2, 1)] : List (Nat × Nat))[i]?) [.int .i64 0, .int .i64 0, .str ⟨#[]⟩] [(0, (.int .i64 3)), (1, .int .i64 n)])) = some (.agg [.int .i64 3, .int .i64 n, .str ⟨#[]⟩]) := fun _ => rfl
  have a4 : ∀ s : ByteArray, (aggA (fillA (fun i => ([(0, 1), (1, 1), (2, 1)] : List (Nat × Nat))[i]?) [.int .i64 0, .int .i64 0, .str ⟨#[]⟩] [(0, (.int .i64 4)), (2, .str s)])) = some (.agg [.int .i64 4, .int .i64 0, .str s]) := fun _ => rfl
  have a0 : (aggA (fillA (fun i => ([(0, 1), (1, 1), (2, 1)] : List (Nat × Nat))[i]?) [.int .i64 0, .int .i64 0, .str ⟨#[]⟩] [])) = some (.agg [.int .i64 0, .int .i64 0, .str ⟨#[]⟩]) := rfl
  have kk : ∀ x y z : AV, [x, y, z].all AV.isCell = true → sto 3 ((st ++ [Ob.cells 0 cs 0]) ++ [Ob.cells 0 [.int .i64 0, .int .i64 0, .str ⟨#[]⟩] 0]) (.mp (st ++ [Ob.cells 0 cs 0]).length 0 0) (.agg [x, y, z]) = some ((st ++ [Ob.cells 0 cs 0]) ++ [Ob.cells 0 [x, y, z] 0]) := fun x y z hc => m_new (cs := [.int .i64 0, .int .i64 0, .str ⟨#[]⟩]) (cs' := [x, y, z]) hc rfl rfl
  have ll : ∀ x y z : AV, ld true 3 ((st ++ [Ob.cells 0 cs 0]) ++ [Ob.cells 0 [x, y, z] 0]) (.mp (st ++ [Ob.cells 0 cs 0]).length 0 0) = some (.agg [x, y, z]) := fun x y z => m_all (g := 0) (fz := 0) get_last rfl
  have hk : ∀ x : Ob, Keeps st.length st ((st ++ [Ob.cells 0 cs 0]) ++ [x]) := fun x => by rw [List.append_assoc]; exact Keeps.app (Nat.le_refl _)
  simp only [g0, g2, g3, Option.bind_some, asI, if_true, a3, a4, a0]
  unfold keyAV keyCells keyErr
  by_cases k3 : h.k = 3
  · simp only [k3, decide_true, cond_true, kk _ _ _ (show [AV.int .i64 3, .int .i64 h.n, .str ⟨#[]⟩].all AV.isCell = true from rfl), Option.bind_some, ll, if_true]
    exact ⟨_, rfl, hk _⟩
  · by_cases k4 : h.k = 4
    · simp only [k3, k4, decide_true, decide_false, cond_true, cond_false, kk _ _ _ (show [AV.int .i64 4, .int .i64 0, .str h.s].all AV.isCell = true from rfl), Option.bind_some, ll, if_true, if_false]
      have h43 : ¬ ((4 : Int) = 3) := by omega
      simp only [h43, decide_false, cond_false, if_false]
      exact ⟨_, rfl, hk _⟩
    · simp only [k3, k4, decide_false, cond_false, kk _ _ _ (show [AV.int .i64 0, .int .i64 0, .str ⟨#[]⟩].all AV.isCell = true from rfl), Option.bind_some, ll, if_false]
      exact ⟨_, rfl, hk _⟩
theorem refKey_spec {h : Hd} {parts : Va} {cs : List AV} (h1 : One h parts cs) (st : Sto) : CallR ap 26 [.agg cs] st = some (.ret (keyAV h), st) := by
  have hall := h1.all
  obtain ⟨a, p, hcs, hIn, ha, hp⟩ := h1
  rw [stencilref5_KeyOf.call]
  suffices hb : ∃ st', stencilref5_KeyOf.b (.agg cs) st = some ⟨.ret (keyAV h), none, st'⟩ ∧ Keeps st.length st st' by
    obtain ⟨st', k1, k2⟩ := hb
    exact ret_keep k1 (keyAV_keep h _).1 (keyAV_keep h _).2 k2
  rw [stencilref5_KeyOf.b_eq, agg_cells, if_pos hall]
  have hS : ((st ++ [Ob.cells 0 cs 0]) ++ [Ob.cells 0 [.int .i64 0, .int .i64 0, .str ⟨#[]⟩] 0])[st.length]? = some (.cells 0 cs 0) := get_mid
  have g0 := m_get (n := 0) (x := .int .i64 h.k) hS (by rw [hcs]; rfl)
  have g2 := m_get (n := 2) (x := .int .i64 h.n) hS (by rw [hcs]; rfl)
  have g3 := m_get (n := 3) (x := .str h.s) hS (by rw [hcs]; rfl)
  have a3 : ∀ n : Int, (aggA (fillA (fun i => ([(0, 1), (1, 1), (2, 1)] : List (Nat × Nat))[i]?) [.int .i64 0, .int .i64 0, .str ⟨#[]⟩] [(0, (.int .i64 3)), (1, .int .i64 n)])) = some (.agg [.int .i64 3, .int .i64 n, .str ⟨#[]⟩]) := fun _ => rfl
  have a4 : ∀ s : ByteArray, (aggA (fillA (fun i => ([(0, 1), (1, 1), (2, 1)] : List (Nat × Nat))[i]?) [.int .i64 0, .int .i64 0, .str ⟨#[]⟩] [(0, (.int .i64 4)), (2, .str s)])) = some (.agg [.int .i64 4, .int .i64 0, .str s]) := fun _ => rfl
  have a0 : (aggA (fillA (fun i => ([(0, 1), (1, 1), (2, 1)] : List (Nat × Nat))[i]?) [.int .i64 0, .int .i64 0, .str ⟨#[]⟩] [])) = some (.agg [.int .i64 0, .int .i64 0, .str ⟨#[]⟩]) := rfl
  have kk : ∀ x y z : AV, [x, y, z].all AV.isCell = true → sto 3 ((st ++ [Ob.cells 0 cs 0]) ++ [Ob.cells 0 [.int .i64 0, .int .i64 0, .str ⟨#[]⟩] 0]) (.mp (st ++ [Ob.cells 0 cs 0]).length 0 0) (.agg [x, y, z]) = some ((st ++ [Ob.cells 0 cs 0]) ++ [Ob.cells 0 [x, y, z] 0]) := fun x y z hc => m_new (cs := [.int .i64 0, .int .i64 0, .str ⟨#[]⟩]) (cs' := [x, y, z]) hc rfl rfl
  have ll : ∀ x y z : AV, ld true 3 ((st ++ [Ob.cells 0 cs 0]) ++ [Ob.cells 0 [x, y, z] 0]) (.mp (st ++ [Ob.cells 0 cs 0]).length 0 0) = some (.agg [x, y, z]) := fun x y z => m_all (g := 0) (fz := 0) get_last rfl
  have hk : ∀ x : Ob, Keeps st.length st ((st ++ [Ob.cells 0 cs 0]) ++ [x]) := fun x => by rw [List.append_assoc]; exact Keeps.app (Nat.le_refl _)
  simp only [g0, g2, g3, Option.bind_some, asI, if_true, a3, a4, a0]
  unfold keyAV keyCells keyErr
  by_cases k3 : h.k = 3
  · simp only [k3, decide_true, cond_true, kk _ _ _ (show [AV.int .i64 3, .int .i64 h.n, .str ⟨#[]⟩].all AV.isCell = true from rfl), Option.bind_some, ll, if_true]
    exact ⟨_, rfl, hk _⟩
  · by_cases k4 : h.k = 4
    · simp only [k3, k4, decide_true, decide_false, cond_true, cond_false, kk _ _ _ (show [AV.int .i64 4, .int .i64 0, .str h.s].all AV.isCell = true from rfl), Option.bind_some, ll, if_true, if_false]
      have h43 : ¬ ((4 : Int) = 3) := by omega
      simp only [h43, decide_false, cond_false, if_false]
      exact ⟨_, rfl, hk _⟩
    · simp only [k3, k4, decide_false, cond_false, kk _ _ _ (show [AV.int .i64 0, .int .i64 0, .str ⟨#[]⟩].all AV.isCell = true from rfl), Option.bind_some, ll, if_false]
      exact ⟨_, rfl, hk _⟩

/-! ### A copy of what has no names and no parts -/
theorem set_same {st : Sto} {id : Nat} {o : Ob} (h : st[id]? = some o) : st.set id o = st := by
  apply List.ext_getElem?
  intro i
  by_cases hi : id = i
  · subst hi
    rw [List.getElem?_set_self (List.getElem?_eq_some_iff.1 h).1, h]
  · rw [List.getElem?_set_ne hi]
theorem cloneN_nil (st : Sto) : CallR ap 60 [.nils] st = some (.ret .nils, st) := by
  rw [slices_Clone_string_string.call]
  refine ret_keep ?_ rfl rfl (Keeps.refl _ _)
  rw [slices_Clone_string_string.b_eq]
  rfl
theorem cloneV_nil (st : Sto) : CallR ap 61 [.nils] st = some (.ret .nils, st) := by
  rw [slices_Clone_api_Value_api_Value.call]
  refine ret_keep ?_ rfl rfl (Keeps.refl _ _)
  rw [slices_Clone_api_Value_api_Value.b_eq]
  rfl

theorem ret_frz {b : Option Res} {v w : AV} {st st' : Sto} (h : b = some ⟨.ret v, none, st'⟩) (hF : Frz st' st.length v w) (hk : Keeps st.length st st') : (b.bind fun r => some (gcF st (r.out, r.st))) = some (.ret w, st) := by
  rw [h]
  simp only [Option.bind_some]
  rw [gcF_eq hF hk.len fun i hi => .inl (hk.at_ i hi), keeps_take (n := 0) hk]
theorem copied_leaf (h : Hd) (st : Sto) : CallR ap 49 [.agg (hcells h .nils .nils)] st = some (.ret (.agg (hcells h .nils .nils)), st) := by
  obtain ⟨cs, hcs⟩ : ∃ cs, cs = hcells h .nils .nils := ⟨_, rfl⟩
  have hall : cs.all AV.isCell = true := by rw [hcs]; rfl
  have hl6 : cs.length = 6 := by rw [hcs]; rfl
  have hst : ∀ n, strips n cs = cs := fun n => by rw [hcs]; rfl
  have hol : ∀ n, olds n cs = true := fun n => by rw [hcs]; rfl
  rw [← hcs]
  rw [value_copied.call]
  suffices hb : ∃ st', value_copied.b (.agg cs) st = some ⟨.ret (.agg cs), none, st'⟩ ∧ Keeps st.length st st' by
    obtain ⟨st', k1, k2⟩ := hb
    exact ret_frz k1 (.old _ (by simp only [AV.old, hol])) k2
  rw [value_copied.b_eq, agg_cells, if_pos hall]
  have ez : [AV.int .i64 0, .bool false, .int .i64 0, .str ⟨#[]⟩, .nils, .nils] = zeroV := rfl
  rw [ez]
  have e1 : (st ++ [Ob.cells 0 cs 0]).length = st.length + 1 := by simp
  have e2 : ((st ++ [Ob.cells 0 cs 0]) ++ [Ob.cells 0 zeroV 0]).length = st.length + 2 := by simp
  have s1 : sto 6 (((st ++ [Ob.cells 0 cs 0]) ++ [Ob.cells 0 zeroV 0]) ++ [Ob.cells 0 zeroV 0]) (.mp ((st ++ [Ob.cells 0 cs 0]) ++ [Ob.cells 0 zeroV 0]).length 0 0) (.agg cs) = some (((st ++ [Ob.cells 0 cs 0]) ++ [Ob.cells 0 zeroV 0]) ++ [Ob.cells 0 cs 0]) := m_new hall (by rw [hl6]; rfl) rfl
  have l1 : ld true 6 ((st ++ [Ob.cells 0 cs 0]) ++ [Ob.cells 0 zeroV 0]) (.mp st.length 0 0) = some (.agg cs) := m_all (g := 0) (fz := 0) get_mid hl6
  have li : (litS true 1 1 (fillA (fun i => some (i * 1, 1)) [.nilp] [(0, (.mp (st.length + 2) 0 0))]) (((st ++ [Ob.cells 0 cs 0]) ++ [Ob.cells 0 zeroV 0]) ++ [Ob.cells 0 cs 0])) = some (.ms (st.length + 3) 0 0 1 1, st ++ [Ob.cells 0 cs 0, .cells 0 zeroV 0, .cells 0 cs 0, .cells 0 [.mp (st.length + 2) 0 0] 0]) := by
    have : (fillA (fun i => some (i * 1, 1)) [.nilp] [(0, (.mp (st.length + 2) 0 0))]) = some [.mp (st.length + 2) 0 0] := rfl
    rw [this]
    simp [litS]
  simp only [l1, Option.bind_some, s1, e1]
  rw [e2]
  simp only [li, Option.bind_some]
  obtain ⟨S, hSe⟩ : ∃ S, S = st ++ [Ob.cells 0 cs 0, .cells 0 zeroV 0, .cells 0 cs 0, .cells 0 [.mp (st.length + 2) 0 0] 0] := ⟨_, rfl⟩
  have L := Lay.init st [Ob.cells 0 cs 0, .cells 0 zeroV 0, .cells 0 cs 0, .cells 0 [.mp (st.length + 2) 0 0] 0]
  rw [← hSe] at L ⊢
  have g2 : S[st.length + 2]? = some (.cells 0 cs 0) := L.get (j := 2) rfl
  have p0 : ld false 1 S (.mp (st.length + 3) 0 0) = some (.mp (st.length + 2) 0 0) := m_get (n := 0) (L.get (j := 3) rfl) rfl
  have f4 : ld false 1 S (.mp (st.length + 2) 0 4) = some .nils := m_get g2 (by rw [hcs]; rfl)
  have f5 : ld false 1 S (.mp (st.length + 2) 0 5) = some .nils := m_get g2 (by rw [hcs]; rfl)
  have o4 : sto 1 S (.mp (st.length + 2) 0 4) .nils = some S := by
    rw [sto_at g2 (by omega) rfl rfl]
    have : cs.set 4 .nils = cs := by rw [hcs]; rfl
    rw [this, set_same g2]
  have o5 : sto 1 S (.mp (st.length + 2) 0 5) .nils = some S := by
    rw [sto_at g2 (by omega) rfl rfl]
    have : cs.set 5 .nils = cs := by rw [hcs]; rfl
    rw [this, set_same g2]
  have w0 : IntKind.wrap .i64 (((1 : Nat) : Int) - 1) = ((0 : Nat) : Int) := rfl
  have hia : ia 1 (.ms (st.length + 3) 0 0 1 1) (.int .i64 ((0 : Nat) : Int)) = some (.mp (st.length + 3) 0 0) := rfl
  have hcut : cutL 1 (.ms (st.length + 3) 0 0 1 1) none (some (.int .i64 ((0 : Nat) : Int))) = some (.ms (st.length + 3) 0 0 0 1) := rfl
  have hn : nilCk (.mp (st.length + 2) 0 0) = some (.mp (st.length + 2) 0 0) := rfl
  have q4 : fa 4 1 (.mp (st.length + 2) 0 0) = some (.mp (st.length + 2) 0 4) := rfl
  have q5 : fa 5 1 (.mp (st.length + 2) 0 0) = some (.mp (st.length + 2) 0 5) := rfl
  have a6 : ld true 6 S (.mp (st.length + 2) 0 0) = some (.agg cs) := m_all g2 hl6
  have g1 : S[st.length + 1]? = some (.cells 0 zeroV 0) := L.get (j := 1) rfl
  have s6 : sto 6 S (.mp (st.length + 1) 0 0) (.agg cs) = some (S.set (st.length + 1) (.cells 0 cs 0)) := sto_all g1 hall hl6 rfl
  have a7 : ld true 6 (S.set (st.length + 1) (.cells 0 cs 0)) (.mp (st.length + 1) 0 0) = some (.agg cs) := m_all (List.getElem?_set_self (by rw [hSe]; simp)) hl6
  have hl1 : lenL (.ms (st.length + 3) 0 0 1 1) = some 1 := rfl
  have hl0 : lenL (.ms (st.length + 3) 0 0 0 1) = some 0 := rfl
  have hln : lenL .nils = some 0 := rfl
  have last : value_copied.p111000 (st.length + 1) (st.length + 2) (.ms (st.length + 3) 0 0 0 1) S = some ⟨.ret (.agg cs), none, S.set (st.length + 1) (.cells 0 cs 0)⟩ := by
    rw [value_copied.p111000_eq]
    simp only [hl0, Option.bind_some, Int.natCast_zero, Int.lt_irrefl, decide_false, cond_false, a6, s6, a7]
  refine ⟨S.set (st.length + 1) (.cells 0 cs 0), ?_, ?_⟩
  · rw [value_copied.p111000_eq]
    have h01 : ((0 : Int) < ((1 : Nat) : Int)) := by omega
    simp only [hl1, Option.bind_some, h01, decide_true, cond_true, w0, hia, p0, hcut, hn, q4, q5, f4, f5, cloneN_nil, cloneV_nil, Out.on, if_true, o4, o5, hln]
    rw [value_copied.p11100010111100_eq]
    simp only [Int.natCast_zero, Int.lt_irrefl, decide_false, cond_false, last]
  · exact ⟨by rw [hSe]; simp, fun i hi => by rw [List.getElem?_set_ne (by omega)]; exact L.lo i hi⟩

/-! ### Where a name stands -/
open Classical in
def findP (x : ByteArray) : List ByteArray → Option Nat
  | [] => none
  | y :: r => if x = y then some 0 else (findP x r).map (· + 1)
theorem findP_lt {x : ByteArray} : ∀ {l : List ByteArray} {i : Nat}, findP x l = some i → i < l.length ∧ l[i]? = some x := by
  intro l
  induction l with
  | nil => intro i h; simp [findP] at h
  | cons y r ih =>
    intro i h
    simp only [findP] at h
    split at h
    · rename_i he; cases h; subst he; simp
    · cases hr : findP x r with
      | none => simp [hr] at h
      | some j =>
        simp [hr] at h
        subst h
        have := ih hr
        exact ⟨by simp; omega, by simpa using this.2⟩

def posI (o : Option Nat) (k : Nat) : Int := match o with | none => -1 | some i => ((k + i : Nat) : Int)
theorem index_loop {l : List ByteArray} {v : AV} (hv : NamV l v) (hs : l.length ≤ 1050000) (x : ByteArray) (st : Sto) :
    ∀ (suf pre : List ByteArray), l = pre ++ suf → slices_Index_string_string.p10100 v x ((l.length : Nat) : Int) ((pre.length : Nat) : Int) st = some ⟨.ret (.int .i64 (posI (findP x suf) pre.length)), none, st⟩ := by
  intro suf
  induction suf with
  | nil =>
    intro pre hp
    rw [List.append_nil] at hp
    rw [slices_Index_string_string.p10100_eq]
    simp only [hp, Int.lt_irrefl, decide_false, cond_false, findP, posI]
  | cons y r ih =>
    intro pre hp
    have hlt : (((pre.length : Nat) : Int) < ((l.length : Nat) : Int)) := by rw [hp]; simp; omega
    have hlen : pre.length < l.length := by rw [hp]; simp
    have hw : IntKind.wrap .i64 (((pre.length : Nat) : Int) + 1) = (((pre ++ [y]).length : Nat) : Int) := by
      rw [w64 (pre.length + 1) (by omega) (by omega)]
      simp
    have hia := nam_at (pre := pre) (suf := r) (x := y) (v := v) (by rw [← hp]; exact hv) (i := ((pre.length : Nat) : Int)) rfl
    have nxt := ih (pre ++ [y]) (by rw [hp]; simp)
    rw [slices_Index_string_string.p10100_eq]
    simp only [hlt, decide_true, cond_true, hia, ld1, Option.bind_some, asS, hw, nxt, findP]
    by_cases hxy : x = y
    · simp [hxy, posI]
    · simp only [hxy, decide_false, cond_false, if_false]
      cases findP x r with
      | none => rfl
      | some j => simp [posI]; omega
theorem index_spec {l : List ByteArray} {v : AV} (hv : NamV l v) (hs : l.length ≤ 1050000) (x : ByteArray) (st : Sto) : CallR ap 48 [v, .str x] st = some (.ret (.int .i64 (posI (findP x l) 0)), st) := by
  have := index_loop hv hs x st l [] rfl
  simp only [List.length_nil, Int.natCast_zero] at this
  rw [slices_Index_string_string.call]
  refine ret_keep ?_ rfl rfl (Keeps.refl _ _)
  rw [slices_Index_string_string.b_eq]
  simp only [hv.len, Option.bind_some, this]

/-! ### Parts -/
def Va.get : Va → Nat → Option (Hd × Va)
  | .nil, _ => none
  | .cons h p _, 0 => some (h, p)
  | .cons _ _ r, i + 1 => r.get i
theorem Va.get_lt : ∀ {ts : Va} {i : Nat}, i < ts.len → ∃ x, ts.get i = some x := by
  intro ts
  induction ts with
  | nil => intro i h; simp [Va.len] at h
  | cons h p r ihp ihr =>
    intro i hi
    cases i with
    | zero => exact ⟨_, rfl⟩
    | succ i => exact ihr (by simp only [Va.len] at hi; omega)
theorem Va.get_sz : ∀ {ts : Va} {i : Nat} {x : Hd × Va}, ts.get i = some x → (Va.cons x.1 x.2 .nil).sz ≤ ts.sz := by
  intro ts
  induction ts with
  | nil => intro i x h; simp [Va.get] at h
  | cons h p r ihp ihr =>
    intro i x hx
    cases i with
    | zero => cases hx; simp only [Va.sz]; omega
    | succ i => have := ihr hx; simp only [Va.sz] at this ⊢; omega
theorem row_get : ∀ (ts : Va) (row : List AV) (j i : Nat) (x : Hd × Va), Row ts (row.drop (j * 6)) → ts.get i = some x → ∃ cs, One x.1 x.2 cs ∧ ∀ n tok, j + i < n → ia 6 (.is row n tok) (.int .i64 ((j + i : Nat) : Int)) = some (.ip cs) := by
  intro ts
  induction ts with
  | nil => intro row j i x _ h; simp [Va.get] at h
  | cons h p r ihp ihr =>
    intro row j i x hr hx
    obtain ⟨a, pl, hIn, hna, hpl, hr', hrl, hia⟩ := row_at hr
    cases i with
    | zero =>
      cases hx
      exact ⟨hcells h a pl, ⟨a, pl, rfl, hIn, hna, hpl⟩, fun n tok hn => by simpa using hia n tok (by omega)⟩
    | succ i =>
      obtain ⟨cs, c1, c2⟩ := ihr row (j + 1) i x hr' hx
      exact ⟨cs, c1, fun n tok hn => by rw [show j + (i + 1) = j + 1 + i by omega]; exact c2 n tok (by omega)⟩
theorem va_get {ts : Va} {v : AV} {i : Nat} {x : Hd × Va} (hv : VaV ts v) (hx : ts.get i = some x) (hi : i < ts.len) : ∃ cs, One x.1 x.2 cs ∧ ia 6 v (.int .i64 ((i : Nat) : Int)) = some (.ip cs) := by
  rcases hv with ⟨h0, _⟩ | ⟨row, tok, rfl, hr⟩
  · omega
  · obtain ⟨cs, c1, c2⟩ := row_get ts row 0 i x (by simpa using hr) hx
    exact ⟨cs, c1, by simpa using c2 ts.len tok (by omega)⟩

theorem zero_agg : (aggA (fillA (fun i => ([(0, 1), (1, 1), (2, 1), (3, 1), (4, 1), (5, 1)] : List (Nat × Nat))[i]?) [.int .i64 0, .bool false, .int .i64 0, .str ⟨#[]⟩, .nils, .nils] [])) = some (.agg zeroV) := rfl

/-- Which element a name asks for. -/
def fieldOf5 (h : Hd) (parts : Va) (x : ByteArray) : Option (Hd × Va) := if h.k = 6 then (match findP x h.names with | none => none | some i => if i < parts.len then parts.get i else none) else none

/-- Field, where copies of the element are values. -/
theorem field_spec {h : Hd} {parts : Va} {cs : List AV} (h1 : One h parts cs) (hs : nsz h.names ≤ 1050000) (x : ByteArray) (st : Sto)
    (hcop : ∀ e es, fieldOf5 h parts x = some e → One e.1 e.2 es → ∃ ws, (∀ S, CallR ap 49 [.agg es] S = some (.ret (.agg ws), S)) ∧ One e.1 e.2 ws ∧ ∀ n, strips n ws = ws ∧ olds n ws = true) :
    ∃ ws, CallR ap 27 [.agg cs, .str x] st = some (.ret (.tup [.agg ws, .int .i64 (if (fieldOf5 h parts x).isSome then 0 else 506)]), st) ∧ (∀ e, fieldOf5 h parts x = some e → One e.1 e.2 ws) ∧ (fieldOf5 h parts x = none → ws = zeroV) := by
  have hall := h1.all
  have hlen := nsz_len h.names
  obtain ⟨a, p, hcs, hIn, ha, hp⟩ := h1
  obtain ⟨S, hSe⟩ : ∃ S, S = (st ++ [Ob.cells 0 cs 0]) ++ [Ob.cells 0 zeroV 0] := ⟨_, rfl⟩
  have e1 : (st ++ [Ob.cells 0 cs 0]).length = st.length + 1 := by simp
  have ez : [AV.int .i64 0, .bool false, .int .i64 0, .str ⟨#[]⟩, .nils, .nils] = zeroV := rfl
  have hS : S[st.length]? = some (.cells 0 cs 0) := by rw [hSe]; exact get_mid
  have hS1 : S[st.length + 1]? = some (.cells 0 zeroV 0) := by rw [hSe, ← e1]; exact get_last
  have hk : Keeps st.length st S := by rw [hSe, List.append_assoc]; exact Keeps.app (Nat.le_refl _)
  have g0 : ld false 1 S (.mp st.length 0 0) = some (.int .i64 h.k) := m_get hS (by rw [hcs]; rfl)
  have g4 : ld false 1 S (.mp st.length 0 4) = some a := m_get hS (by rw [hcs]; rfl)
  have g5 : ld false 1 S (.mp st.length 0 5) = some p := m_get hS (by rw [hcs]; rfl)
  have hsl : st.length + 1 < S.length := by rw [hSe]; simp
  have out : ∀ ws : List AV, ws.all AV.isCell = true → ws.length = 6 → sto 6 S (.mp (st.length + 1) 0 0) (.agg ws) = some (S.set (st.length + 1) (.cells 0 ws 0)) ∧ ld true 6 (S.set (st.length + 1) (.cells 0 ws 0)) (.mp (st.length + 1) 0 0) = some (.agg ws) := fun ws hw hl => ⟨sto_all hS1 hw hl rfl, m_all (List.getElem?_set_self hsl) hl⟩
  have ks : ∀ ws : List AV, Keeps st.length st (S.set (st.length + 1) (.cells 0 ws 0)) := fun ws => hk.trans (Keeps.set (by omega))
  have fail : value_Field.p11 (st.length + 1) S = some ⟨.ret (.tup [.agg zeroV, .int .i64 506]), none, S.set (st.length + 1) (.cells 0 zeroV 0)⟩ := by
    have := out zeroV rfl rfl
    rw [value_Field.p11_eq]
    simp only [zero_agg, Option.bind_some, this.1, this.2]
  have hfail : value_Field.b (.agg cs) x st = some ⟨.ret (.tup [.agg zeroV, .int .i64 506]), none, S.set (st.length + 1) (.cells 0 zeroV 0)⟩ → fieldOf5 h parts x = none → ∃ ws, CallR ap 27 [.agg cs, .str x] st = some (.ret (.tup [.agg ws, .int .i64 (if (fieldOf5 h parts x).isSome then 0 else 506)]), st) ∧ (∀ e, fieldOf5 h parts x = some e → One e.1 e.2 ws) ∧ (fieldOf5 h parts x = none → ws = zeroV) := by
    intro hb hf
    refine ⟨zeroV, ?_, fun e he => (by rw [hf] at he; cases he), fun _ => rfl⟩
    rw [value_Field.call, hf]
    exact ret_keep hb rfl rfl (ks _)
  have hb := value_Field.b_eq (.agg cs) x st
  rw [agg_cells, if_pos hall, ez, ← hSe, e1] at hb
  simp only [g0, g4, g5, Option.bind_some, asI, if_true, index_spec ha (by omega), Out.on, hp.len] at hb
  by_cases k6 : h.k = 6
  · simp only [k6, decide_true, cond_true] at hb
    cases hf : findP x h.names with
    | none =>
      have : ¬ ((0 : Int) ≤ posI none 0) := by simp [posI]
      rw [hf] at hb
      simp only [this, decide_false, cond_false, value_Field.p101011_eq, fail] at hb
      exact hfail hb (by simp [fieldOf5, k6, hf])
    | some i =>
      obtain ⟨f1, f2⟩ := findP_lt hf
      rw [hf] at hb
      have e0 : posI (some i) 0 = ((i : Nat) : Int) := by simp [posI]
      have c : (((i : Nat) : Int) < ((parts.len : Nat) : Int)) ↔ i < parts.len := by omega
      have h0 : (0 : Int) ≤ ((i : Nat) : Int) := by omega
      simp only [e0, h0, decide_true, cond_true, c] at hb
      by_cases hi : i < parts.len
      · obtain ⟨e, he⟩ := Va.get_lt hi
        have hfo : fieldOf5 h parts x = some e := by simp [fieldOf5, k6, hf, hi, he]
        obtain ⟨es, hone, hia⟩ := va_get hp he hi
        obtain ⟨ws, w1, w2, w3⟩ := hcop e es hfo hone
        have hl6 : ws.length = 6 := by obtain ⟨a, p, rfl, _⟩ := w2; rfl
        have hle : es.length = 6 := by obtain ⟨a, p, rfl, _⟩ := hone; rfl
        have l6 : ld true 6 S (.ip es) = some (.agg es) := by
          simp only [ld, ldCells, hle, Nat.le_refl, if_true, Option.bind_some]
          rw [← hle, List.take_length]
          rfl
        have ho := out ws w2.all hl6
        simp only [hi, decide_true, value_Field.p101011_eq, cond_true, g5, Option.bind_some, hia, l6, w1, Out.on, ho.1, ho.2] at hb
        refine ⟨ws, ?_, fun e' he' => ?_, fun hn => ?_⟩
        · rw [value_Field.call, hfo]
          refine ret_keep hb ?_ ?_ (ks _)
          · simp only [AV.strip, strips, (w3 _).1]
          · simp only [AV.old, olds, (w3 _).2, Bool.and_self]
        · rw [hfo] at he'; cases he'; exact w2
        · rw [hfo] at hn; cases hn
      · simp only [hi, decide_false, value_Field.p101011_eq, cond_false, fail] at hb
        exact hfail hb (by simp [fieldOf5, k6, hf, hi])
  · simp only [k6, decide_false, cond_false, fail] at hb
    exact hfail hb (by simp [fieldOf5, k6])
end Go.Proofs.YtiiooldjegoikaaDoor
