/- Values copied by the law; the document's Same. -/
import Derived.Test.YtiiooldjegoikaaDoorVB
namespace Go.Proofs.YtiiooldjegoikaaDoor
open Go.St Go.Lib
set_option linter.unusedVariables false
set_option linter.unusedSimpArgs false

def copyN (l : List ByteArray) : AV := if l.length = 0 then .is [] 0 .full else .is (ncells l) l.length .no
def copyRow : Va → List AV
  | .nil => []
  | .cons h parts rest => hcells h (copyN h.names) (if parts.len = 0 then .nils else .is (copyRow parts) parts.len .no) ++ copyRow rest
def copyP (parts : Va) : AV := if parts.len = 0 then .nils else .is (copyRow parts) parts.len .no
def copyC (h : Hd) (parts : Va) : List AV := hcells h (copyN h.names) (copyP parts)

theorem copyN_nam (l : List ByteArray) : NamV l (copyN l) := by
  unfold copyN
  split
  · rename_i h
    obtain rfl := List.eq_nil_of_length_eq_zero h
    exact NamV.mk [] .full rfl
  · exact NamV.mk l .no rfl
theorem copyRow_row (ts : Va) (ho : OkV ts) : ∀ r, Row ts (copyRow ts ++ r) := by
  induction ts with
  | nil => intro r; trivial
  | cons h parts rest ihp ihr =>
    intro r
    refine ⟨copyN h.names, _, copyRow rest ++ r, by rw [copyRow, List.append_assoc], ho.1, copyN_nam _, ?_, ihr ho.2.2 r⟩
    by_cases h : parts.len = 0
    · exact .inl ⟨h, if_pos h⟩
    · refine .inr ⟨copyRow parts, .no, if_neg h, ?_⟩
      have := ihp ho.2.1 []
      rwa [List.append_nil] at this
theorem copyP_va (ts : Va) (ho : OkV ts) : VaV ts (copyP ts) := by
  unfold copyP
  split
  · rename_i h; exact .inl ⟨h, rfl⟩
  · refine .inr ⟨_, _, rfl, ?_⟩
    have := copyRow_row ts ho []
    rwa [List.append_nil] at this
theorem copyC_one (h : Hd) (parts : Va) (hn : In h.n) (ho : OkV parts) : One h parts (copyC h parts) := ⟨_, _, rfl, hn, copyN_nam _, copyP_va _ ho⟩
theorem strip_copyN (n : Nat) (l : List ByteArray) : (copyN l).strip n = copyN l := by
  unfold copyN
  split
  · rfl
  · simp only [AV.strip, strips_ncells, Tok.strip]
theorem old_copyN (n : Nat) (l : List ByteArray) : (copyN l).old n = true := by
  unfold copyN
  split
  · rfl
  · simp only [AV.old, olds_ncells, Tok.old, Bool.and_self]
theorem strips_copyRow (n : Nat) (ts : Va) : strips n (copyRow ts) = copyRow ts := by
  induction ts with
  | nil => rfl
  | cons h parts rest ihp ihr =>
    simp only [copyRow, strips_app, strips_hcells, strip_copyN, ihr]
    split
    · rfl
    · simp only [AV.strip, ihp, Tok.strip]
theorem olds_copyRow (n : Nat) (ts : Va) : olds n (copyRow ts) = true := by
  induction ts with
  | nil => rfl
  | cons h parts rest ihp ihr =>
    simp only [copyRow, olds_app, olds_hcells, old_copyN, ihr]
    split
    · rfl
    · simp only [AV.old, ihp, Tok.old, Bool.and_self]
theorem strip_copyP (n : Nat) (ts : Va) : (copyP ts).strip n = copyP ts := by
  unfold copyP
  split
  · rfl
  · simp only [AV.strip, strips_copyRow, Tok.strip]
theorem old_copyP (n : Nat) (ts : Va) : (copyP ts).old n = true := by
  unfold copyP
  split
  · rfl
  · simp only [AV.old, olds_copyRow, Tok.old, Bool.and_self]
theorem copyC_cell (h : Hd) (parts : Va) : (copyC h parts).all AV.isCell = true := by
  have h1 : (copyN h.names).isCell = true := by unfold copyN; split <;> rfl
  have h2 : (copyP parts).isCell = true := by unfold copyP; split <;> rfl
  simp only [copyC, hcells, List.all_cons, List.all_nil, h1, h2, Bool.and_true]
  rfl

/-- What a copy is when it is handed back. -/
def CopyV (n : Nat) (st st' : Sto) (ts : Va) (v : AV) : Prop := (ts.len = 0 ∧ v = .nils ∧ st' = st) ∨ (0 < ts.len ∧ v = .is (copyRow ts) ts.len (.tip n 0 6) ∧ st' = st ++ [.tip 0])
theorem CopyV.keeps {n : Nat} {st st' : Sto} {ts : Va} {v : AV} (h : CopyV n st st' ts v) : ∃ l, st' = st ++ l := by
  rcases h with ⟨_, _, rfl⟩ | ⟨_, _, rfl⟩
  · exact ⟨[], by simp⟩
  · exact ⟨_, rfl⟩

def CopyOk (ts : Va) : Prop := ∀ (row : List AV) (n i : Nat) (tok : Tok) (st : Sto) (nn : Nat) (x : AV) (pre : List AV), Row ts (row.drop (i * 6)) → n = i + ts.len → ts.sz ≤ 1050000 → n ≤ 1050000 → nn ≤ st.length → BufT 6 nn st x pre i →
  ∃ x' st', stencillaw0_CopyValues.p110100 (.is row n tok) x ((i : Nat) : Int) st = some ⟨.ret x', none, st'⟩ ∧ BufT 6 nn st' x' (pre ++ copyRow ts) n ∧ Keeps nn st st'

theorem copy_of {ts : Va} (H : CopyOk ts) {v : AV} (hv : VaV ts v) (hs : ts.sz ≤ 1050000) (st : Sto) : ∃ x st', CallR ap 45 [v] st = some (.ret x, st') ∧ CopyV st.length st st' ts x := by
  rw [stencillaw0_CopyValues.call, stencillaw0_CopyValues.b_eq]
  have nilc : ts.len = 0 → ∀ t0, lenL t0 = some 0 → ∃ x st', ((stencillaw0_CopyValues.p110100 t0 .nils 0 st).bind fun r => some (gcT st (r.out, r.st))) = some (.ret x, st') ∧ CopyV st.length st st' ts x := by
    intro h0 t0 hl
    refine ⟨.nils, st, ?_, .inl ⟨h0, rfl, rfl⟩⟩
    rw [stencillaw0_CopyValues.p110100_eq]
    simp only [hl, Option.bind_some]
    show some (gcT st (.ret .nils, st)) = _
    unfold gcT
    rw [gc_keep rfl rfl (Keeps.refl _ _)]
  rcases hv with ⟨h0, rfl⟩ | ⟨row, tok, rfl, hr⟩
  · exact nilc h0 _ rfl
  · by_cases h0 : ts.len = 0
    · exact nilc h0 _ (by rw [h0]; rfl)
    · have hl := len_sz ts
      obtain ⟨x', st', h1, h2, h3⟩ := H row ts.len 0 tok st st.length .nils [] (by simpa using hr) (by omega) hs (by omega) (Nat.le_refl _) (.inl ⟨rfl, rfl, rfl⟩)
      simp only [Int.natCast_zero] at h1
      rw [h1]
      simp only [Option.bind_some]
      rcases h2 with ⟨_, _, h2⟩ | ⟨i, g, hi, rfl, hst, hlen⟩
      · omega
      · rw [List.nil_append]
        rw [gcT_tip (strips_copyRow _ _) (olds_copyRow _ _) hi hst h3]
        exact ⟨_, _, rfl, .inr ⟨by omega, rfl, rfl⟩⟩

theorem gc_strip {x : AV} {st st' : Sto} (ho : (x.strip st.length).old st.length = true) (hk : Keeps st.length st st') : gc st (.ret x, st') = (.ret (x.strip st.length), st) := by
  have hc : (((Out.ret x).val.strip st.length).old st.length = true ∧ st.length ≤ st'.length ∧ Kept st.length st st') := ⟨ho, hk.len, fun i hi => .inl (hk.at_ i hi)⟩
  unfold gc
  rw [if_pos hc]
  simp only [Out.map]
  rw [keeps_take (n := 0) hk]

theorem get_mid' {st l : Sto} {o z : Ob} : (((st ++ [o]) ++ [z]) ++ l)[st.length]? = some o := by
  rw [List.getElem?_append_left (by simp)]
  exact get_mid
theorem set_mid' {st l : Sto} {o o' z : Ob} : (((st ++ [o]) ++ [z]) ++ l).set st.length o' = ((st ++ [o']) ++ [z]) ++ l := by
  rw [List.set_append_left _ _ (by simp), set_mid]
theorem get_last' {st l : Sto} {o z : Ob} : (((st ++ [o]) ++ [z]) ++ l)[(st ++ [o]).length]? = some z := by
  rw [List.getElem?_append_left (by simp)]
  exact get_last

theorem copyV_of {h : Hd} {parts : Va} {cs : List AV} (H : CopyOk parts) (h1 : One h parts cs) (hs : nsz h.names ≤ 1050000) (hs2 : parts.sz ≤ 1050000) (st : Sto) :
    CallR ap 22 [.agg cs] st = some (.ret (.agg (copyC h parts)), st) := by
  have hall := h1.all
  obtain ⟨a, k, rfl, hIn, ha, hk⟩ := h1
  obtain ⟨o, ho⟩ : ∃ o : Ob, o = Ob.cells 0 (hcells h a k) 0 := ⟨_, rfl⟩
  obtain ⟨z, hz⟩ : ∃ z : Ob, z = Ob.cells 0 [.int .i64 0, .bool false, .int .i64 0, .str ⟨#[]⟩, .nils, .nils] 0 := ⟨_, rfl⟩
  -- the names
  obtain ⟨x1, l1', h1, h1s, h1c, h1cell⟩ : ∃ x l, CallR ap 44 [a] ((st ++ [o]) ++ [z]) = some (.ret x, ((st ++ [o]) ++ [z]) ++ l) ∧ (x.strip st.length = copyN h.names) ∧ x.cells = [x] ∧ x.isCell = true := by
    rcases copyTexts_spec ha hs ((st ++ [o]) ++ [z]) with ⟨e1, e2⟩ | ⟨e1, e2⟩
    · refine ⟨_, [], by simpa using e2, ?_, rfl, rfl⟩
      unfold copyN
      rw [if_pos e1]
      rfl
    · refine ⟨_, _, e2, ?_, rfl, rfl⟩
      unfold copyN
      rw [if_neg (by omega)]
      have : ¬ ((st ++ [o]) ++ [z]).length < st.length := by simp only [List.length_append, List.length_cons, List.length_nil]; omega
      simp only [AV.strip, strips_ncells, Tok.strip, this, if_false]
  -- the parts
  obtain ⟨x2, st2, h2, hc2⟩ := copy_of H hk hs2 (((st ++ [Ob.cells 0 (hcells h x1 k) 0]) ++ [z]) ++ l1')
  obtain ⟨l2', hl2⟩ := hc2.keeps
  have h2s : x2.strip st.length = copyP parts ∧ x2.cells = [x2] ∧ x2.isCell = true := by
    unfold copyP
    rcases hc2 with ⟨e1, e2, _⟩ | ⟨e1, e2, _⟩
    · subst e2
      rw [if_pos e1]
      exact ⟨rfl, rfl, rfl⟩
    · subst e2
      rw [if_neg (by omega)]
      refine ⟨?_, rfl, rfl⟩
      have : ¬ (((st ++ [Ob.cells 0 (hcells h x1 k) 0]) ++ [z]) ++ l1').length < st.length := by simp only [List.length_append, List.length_cons, List.length_nil]; omega
      simp only [AV.strip, strips_copyRow, Tok.strip, this, if_false]
  obtain ⟨h2s, h2c, h2cell⟩ := h2s
  have hkc : k.isCell = true := hk.cell
  subst hl2
  have s1 : sto 1 (((st ++ [o]) ++ [z]) ++ l1') (.mp st.length 0 4) x1 = some (((st ++ [Ob.cells 0 (hcells h x1 k) 0]) ++ [z]) ++ l1') := by
    rw [ho, sto_at get_mid' (by simp [hcells]) h1cell h1c, set_mid']
    rfl
  have s2 : sto 1 ((((st ++ [Ob.cells 0 (hcells h x1 k) 0]) ++ [z]) ++ l1') ++ l2') (.mp st.length 0 5) x2 = some (((st ++ [Ob.cells 0 (hcells h x1 x2) 0]) ++ [z]) ++ (l1' ++ l2')) := by
    rw [List.append_assoc, sto_at get_mid' (by simp [hcells]) h2cell h2c, set_mid']
    rfl
  have hall2 : (hcells h x1 x2).all AV.isCell = true := by
    simp only [hcells, List.all_cons, List.all_nil, h1cell, h2cell, Bool.and_true]
    rfl
  have s3 := sto_all (st := ((st ++ [Ob.cells 0 (hcells h x1 x2) 0]) ++ [z]) ++ (l1' ++ l2')) (cs := [.int .i64 0, .bool false, .int .i64 0, .str ⟨#[]⟩, .nils, .nils]) (cs' := hcells h x1 x2) (n := 6) (by rw [hz]; exact get_last') hall2 rfl rfl
  have e1 : (st ++ [o]).length = (st ++ [Ob.cells 0 (hcells h x1 x2) 0]).length := by simp
  have hlast : (((st ++ [Ob.cells 0 (hcells h x1 x2) 0]) ++ [z]) ++ (l1' ++ l2')).length > (st ++ [Ob.cells 0 (hcells h x1 x2) 0]).length := by simp
  rw [stencillaw0_CopyValue.call, stencillaw0_CopyValue.b_eq, agg_cells, if_pos hall, ← ho, ← hz, e1]
  have r2 : ld false 1 ((st ++ [o]) ++ [z]) (.mp st.length 0 4) = some a := by rw [ho]; exact m_get (cs := hcells h a k) (n := 4) get_mid rfl
  have r3 : ld false 1 (((st ++ [Ob.cells 0 (hcells h x1 k) 0]) ++ [z]) ++ l1') (.mp st.length 0 5) = some k := m_get (cs := hcells h x1 k) (n := 5) get_mid' rfl
  have r4 : ld true 6 (((st ++ [Ob.cells 0 (hcells h x1 x2) 0]) ++ [z]) ++ (l1' ++ l2')) (.mp st.length 0 0) = some (.agg (hcells h x1 x2)) := m_all (n := 6) get_mid' rfl
  simp only [r2, Option.bind_some, h1, Out.on, s1, r3, h2, s2, r4, s3]
  rw [m_all (n := 6) (cs := hcells h x1 x2) (List.getElem?_set_self hlast) rfl]
  simp only [Option.bind_some]
  have hst : (AV.agg (hcells h x1 x2)).strip st.length = .agg (copyC h parts) := by
    simp only [AV.strip, strips_hcells, h1s, h2s, copyC]
  rw [gc_strip (by
    rw [hst]
    simp only [AV.old, copyC, olds_hcells, old_copyN, old_copyP, Bool.and_self]) (by
    rw [List.append_assoc, List.append_assoc]
    exact (Keeps.app (Nat.le_refl _)).trans (Keeps.set (by simp))), hst]

theorem copy_all (ts : Va) : CopyOk ts := by
  induction ts with
  | nil =>
    intro row n i tok st nn x pre hr hn hs hb hnn hx
    simp only [Va.len, Nat.add_zero] at hn
    subst hn
    rw [stencillaw0_CopyValues.p110100_eq]
    refine ⟨x, st, ?_, by rw [copyRow, List.append_nil]; exact hx, Keeps.refl _ _⟩
    simp only [lenL, Option.bind_some, Int.lt_irrefl, decide_false, cond_false]
  | cons h parts rest ihp ihr =>
    intro row n i tok st nn x pre hr hn hs hb hnn hx
    simp only [Va.len] at hn
    simp only [Va.sz] at hs
    obtain ⟨a, pl, hIn, hna, hpl, hr', hrl, hia⟩ := row_at hr
    have hia := hia n tok (by omega)
    have wi : IntKind.wrap .i64 ((i : Int) + 1) = ((i + 1 : Nat) : Int) := w64 _ (by omega) (by omega)
    have hlt : (((i : Nat) : Int) < ((n : Nat) : Int)) := by omega
    have l6 : ld true 6 st (.ip (hcells h a pl)) = some (.agg (hcells h a pl)) := rfl
    obtain ⟨j, g, s1, h1, h2, h3, h4, h5, h6, h7⟩ := bufT_add (bytes := 88) (str := false) hx hnn (tail_val (cs := copyC h parts) rfl st) (by omega) rfl (by simp [room]; omega)
    obtain ⟨x', st', m1, m2, m3⟩ := ihr row n (i + 1) tok s1 nn _ _ hr' (by omega) (by omega) hb (Nat.le_trans hnn h5) (.inr ⟨j, g, h2, rfl, h3, h7⟩)
    refine ⟨x', st', ?_, ?_, h4.trans m3⟩
    · rw [stencillaw0_CopyValues.p110100_eq]
      simp only [lenL, Option.bind_some, hlt, decide_true, cond_true, hia, l6, copyV_of ihp (cs := hcells h a pl) ⟨a, pl, rfl, hIn, hna, hpl⟩ (show nsz h.names ≤ 1050000 by omega) (show parts.sz ≤ 1050000 by omega), Out.on, lit_val (copyC_cell h parts) rfl, h1, wi]
      exact m1
    · have : pre ++ copyRow (.cons h parts rest) = (pre ++ copyC h parts) ++ copyRow rest := by
        simp [copyRow, copyC, copyP]
      rw [this]
      exact m2

theorem copyValue_spec {h : Hd} {parts : Va} {cs : List AV} (h1 : One h parts cs) (hs : (Va.cons h parts .nil).sz ≤ 1050000) (st : Sto) : CallR ap 22 [.agg cs] st = some (.ret (.agg (copyC h parts)), st) := by
  simp only [Va.sz] at hs
  exact copyV_of (copy_all parts) h1 (by omega) (by omega) st

/-! ### The document's Same -/
open Classical in
theorem rnames_loop {n m : Nat} {S : Sto} {cs ds : List AV} {x y : Hd} {a b : AV} (hS : S[n]? = some (.cells 0 cs 0)) (hT : S[m]? = some (.cells 0 ds 0)) (hc : cs[4]? = some a) (hd : ds[4]? = some b) (h0 : cs[0]? = some (.int .i64 6)) (ha : NamV x.names a) (hb : NamV y.names b) (hl : x.names.length = y.names.length) (hs : x.names.length ≤ 1050000) :
    ∀ (s1 s2 p1 p2 : List ByteArray), x.names = p1 ++ s1 → y.names = p2 ++ s2 → p1.length = p2.length → stencilref5_Same.p110101111111010100 n m ((p1.length : Nat) : Int) S = (if s1 = s2 then stencilref5_Same.p110101111111011100 n m 0 S else some ⟨.ret (.bool false), none, S⟩) := by
  have g4 : ld false 1 S (.mp n 0 4) = some a := m_get hS hc
  have k4 : ld false 1 S (.mp m 0 4) = some b := m_get hT hd
  have g0 : ld false 1 S (.mp n 0 0) = some (.int .i64 6) := m_get hS h0
  intro s1
  induction s1 with
  | nil =>
    intro s2 p1 p2 h1 h2 hp
    have : s2 = [] := List.eq_nil_of_length_eq_zero (by rw [h1, h2] at hl; simp at hl; omega)
    subst this
    rw [stencilref5_Same.p110101111111010100_eq]
    rw [List.append_nil] at h1
    simp only [g4, Option.bind_some, ha.len, h1, Int.lt_irrefl, decide_false, cond_false, stencilref5_Same.p11010111111101010001_eq, if_true]
  | cons u r ih =>
    intro s2 p1 p2 h1 h2 hp
    cases s2 with
    | nil => rw [h1, h2] at hl; simp at hl; omega
    | cons w t =>
      have hlt : (((p1.length : Nat) : Int) < ((x.names.length : Nat) : Int)) := by rw [h1]; simp; omega
      have hlen : p1.length < x.names.length := by rw [h1]; simp
      have hwr : IntKind.wrap .i64 (((p1.length : Nat) : Int) + 1) = (((p1 ++ [u]).length : Nat) : Int) := by
        rw [w64 (p1.length + 1) (by omega) (by omega)]
        simp
      have nxt := ih t (p1 ++ [u]) (p2 ++ [w]) (by rw [h1]; simp) (by rw [h2]; simp) (by simp [hp])
      have i1 := nam_at (pre := p1) (suf := r) (x := u) (v := a) (by rw [← h1]; exact ha) (i := ((p1.length : Nat) : Int)) rfl
      have i2 := nam_at (pre := p2) (suf := t) (x := w) (v := b) (by rw [← h2]; exact hb) (i := ((p1.length : Nat) : Int)) (by omega)
      rw [stencilref5_Same.p110101111111010100_eq]
      simp only [g4, k4, g0, Option.bind_some, ha.len, hlt, decide_true, cond_true, asI, if_true, stencilref5_Same.p11010111111101010001_eq, i1, i2, ld1, asS, hwr, nxt]
      by_cases hxy : u = w
      · subst hxy
        simp
      · simp [hxy]

def RSameOk (ts : Va) : Prop := ∀ (us : Va) (n m : Nat) (S : Sto) (cs ds : List AV) (p q : AV) (i L : Nat), S[n]? = some (.cells 0 cs 0) → S[m]? = some (.cells 0 ds 0) → cs[5]? = some p → ds[5]? = some q → Fr ts p i L → Fr us q i L → ts.sz ≤ 1050000 → us.sz ≤ 1050000 →
  stencilref5_Same.p110101111111011100 n m ((i : Nat) : Int) S = some ⟨.ret (.bool (sm ts us)), none, S⟩

theorem rsame_of {x y : Hd} {px py : Va} {cs ds : List AV} (H : RSameOk px) (h1 : One x px cs) (h2 : One y py ds) (hs1 : (Va.cons x px .nil).sz ≤ 1050000) (hs2 : (Va.cons y py .nil).sz ≤ 1050000) (st : Sto) :
    CallR ap 21 [.agg cs, .agg ds] st = some (.ret (.bool (same1 x px y py)), st) := by
  simp only [Va.sz] at hs1 hs2
  have hall1 := h1.all
  have hall2 := h2.all
  obtain ⟨a, p, hcs, hIn, ha, hp⟩ := h1
  obtain ⟨b, q, hds, hIn2, hb, hq⟩ := h2
  obtain ⟨S, hSe⟩ : ∃ S, S = (st ++ [Ob.cells 0 cs 0]) ++ [Ob.cells 0 ds 0] := ⟨_, rfl⟩
  have e1 : (st ++ [Ob.cells 0 cs 0]).length = st.length + 1 := by simp
  have hS0 : S[st.length]? = some (.cells 0 cs 0) := by rw [hSe]; exact get_mid
  have hS1 : S[st.length + 1]? = some (.cells 0 ds 0) := by rw [hSe, ← e1]; exact get_last
  have hk0 : Keeps st.length st S := by rw [hSe, List.append_assoc]; exact Keeps.app (Nat.le_refl _)
  rw [stencilref5_Same.call]
  refine ret_keep (st' := S) ?_ rfl rfl hk0
  rw [stencilref5_Same.b_eq, agg_cells, agg_cells, if_pos hall1, if_pos hall2, ← hSe, e1]
  have v0 : ld false 1 S (.mp st.length 0 0) = some (.int .i64 x.k) := m_get hS0 (by rw [hcs]; rfl)
  have v1 : ld false 1 S (.mp st.length 0 1) = some (.bool x.b) := m_get hS0 (by rw [hcs]; rfl)
  have v2 : ld false 1 S (.mp st.length 0 2) = some (.int .i64 x.n) := m_get hS0 (by rw [hcs]; rfl)
  have v3 : ld false 1 S (.mp st.length 0 3) = some (.str x.s) := m_get hS0 (by rw [hcs]; rfl)
  have v4 : ld false 1 S (.mp st.length 0 4) = some a := m_get hS0 (by rw [hcs]; rfl)
  have v5 : ld false 1 S (.mp st.length 0 5) = some p := m_get hS0 (by rw [hcs]; rfl)
  have u0 : ld false 1 S (.mp (st.length + 1) 0 0) = some (.int .i64 y.k) := m_get hS1 (by rw [hds]; rfl)
  have u1 : ld false 1 S (.mp (st.length + 1) 0 1) = some (.bool y.b) := m_get hS1 (by rw [hds]; rfl)
  have u2 : ld false 1 S (.mp (st.length + 1) 0 2) = some (.int .i64 y.n) := m_get hS1 (by rw [hds]; rfl)
  have u3 : ld false 1 S (.mp (st.length + 1) 0 3) = some (.str y.s) := m_get hS1 (by rw [hds]; rfl)
  have u4 : ld false 1 S (.mp (st.length + 1) 0 4) = some b := m_get hS1 (by rw [hds]; rfl)
  have u5 : ld false 1 S (.mp (st.length + 1) 0 5) = some q := m_get hS1 (by rw [hds]; rfl)
  have c1 : (((px.len : Nat) : Int) = ((py.len : Nat) : Int)) ↔ px.len = py.len := by omega
  have c2 : (((x.names.length : Nat) : Int) = ((y.names.length : Nat) : Int)) ↔ x.names.length = y.names.length := by omega
  have hF := Fr.of hp (by omega)
  have hG := Fr.of hq (by omega)
  have nl := nsz_len x.names
  -- the parts
  have pt : px.len = py.len → stencilref5_Same.p110101111111011100 st.length (st.length + 1) 0 S = some ⟨.ret (.bool (sm px py)), none, S⟩ := by
    intro hl
    rw [← hl] at hG
    have := H py st.length (st.length + 1) S cs ds p q 0 px.len hS0 hS1 (by rw [hcs]; rfl) (by rw [hds]; rfl) hF hG (by omega) (by omega)
    simpa using this
  have hsame : same1 x px y py = ((decide (x.k = y.k) && (if x.k = 2 then (x.b == y.b) else if x.k = 3 then decide (x.n = y.n) else if x.k = 4 then decide (x.s = y.s) else if x.k = 6 then decide (x.names = y.names) else true)) && (if x.k = 5 ∨ x.k = 6 then sm px py else true)) := rfl
  rw [hsame]
  simp only [v0, v1, v2, v3, u0, u1, u2, u3, Option.bind_some, asI, asS, if_true, eqB]
  by_cases hk : x.k = y.k
  · simp only [hk, decide_true, Bool.not_true, cond_false, Bool.true_and]
    by_cases k2 : y.k = 2
    · have h5 : ¬ ((2 : Int) = 5 ∨ (2 : Int) = 6) := by omega
      simp only [k2, decide_true, cond_true, if_true, h5, if_false, Bool.and_true]
    · by_cases k3 : y.k = 3
      · have h5 : ¬ ((3 : Int) = 5 ∨ (3 : Int) = 6) := by omega
        have h6 : ¬ ((3 : Int) = 2) := by omega
        simp only [k3, h6, decide_true, decide_false, cond_true, cond_false, if_true, h5, if_false, Bool.and_true]
      · by_cases k4 : y.k = 4
        · have h5 : ¬ ((4 : Int) = 5 ∨ (4 : Int) = 6) := by omega
          have h6 : ¬ ((4 : Int) = 2) := by omega
          have h7 : ¬ ((4 : Int) = 3) := by omega
          simp only [k4, h6, h7, decide_true, decide_false, cond_true, cond_false, if_true, h5, if_false, Bool.and_true]
        · by_cases k6 : y.k = 6
          · have h5 : ((6 : Int) = 5 ∨ (6 : Int) = 6) := by omega
            have h6 : ¬ ((6 : Int) = 2) := by omega
            have h7 : ¬ ((6 : Int) = 3) := by omega
            have h8 : ¬ ((6 : Int) = 4) := by omega
            have h9 : ¬ ((6 : Int) = 5) := by omega
            have hx6 : x.k = 6 := by omega
            simp only [k6, h6, h7, h8, h9, decide_true, decide_false, cond_true, cond_false, if_true, h5, if_false, stencilref5_Same.p110101111111_eq, v5, u5, v4, u4, hp.len, hq.len, ha.len, hb.len, Option.bind_some, c1, c2, v0, hx6, asI, stencilref5_Same.p110101111111001_eq]
            by_cases hl : px.len = py.len
            · by_cases hn : x.names.length = y.names.length
              · have hloop := rnames_loop (x := x) (y := y) hS0 hS1 (show cs[4]? = some a by rw [hcs]; rfl) (show ds[4]? = some b by rw [hds]; rfl) (show cs[0]? = some (.int .i64 6) by rw [hcs, ← hx6]; rfl) ha hb hn (by omega) x.names y.names [] [] rfl rfl rfl
                simp only [List.length_nil, Int.natCast_zero] at hloop
                simp only [hl, hn, decide_true, Bool.not_true, cond_false, hloop]
                by_cases hnm : x.names = y.names
                · simp [hnm, pt hl]
                · simp [hnm]
              · have hnm : x.names ≠ y.names := fun e => hn (by rw [e])
                simp [hl, hn, hnm]
            · simp [hl, sm_len _ _ hl]
          · by_cases k5 : y.k = 5
            · have h5 : ((5 : Int) = 5 ∨ (5 : Int) = 6) := by omega
              have h6 : ¬ ((5 : Int) = 2) := by omega
              have h7 : ¬ ((5 : Int) = 3) := by omega
              have h8 : ¬ ((5 : Int) = 4) := by omega
              have h9 : ¬ ((5 : Int) = 6) := by omega
              have hx5 : x.k = 5 := by omega
              simp only [k5, h6, h7, h8, h9, decide_true, decide_false, cond_true, cond_false, if_true, h5, if_false, Bool.true_and, stencilref5_Same.p110101111111_eq, v5, u5, hp.len, hq.len, Option.bind_some, c1, v0, hx5, asI, stencilref5_Same.p110101111111001_eq]
              by_cases hl : px.len = py.len
              · have hnl : stencilref5_Same.p110101111111010100 st.length (st.length + 1) 0 S = stencilref5_Same.p110101111111011100 st.length (st.length + 1) 0 S := by
                  rw [stencilref5_Same.p110101111111010100_eq]
                  simp only [v4, v0, hx5, Option.bind_some, ha.len, asI, if_true, h9, decide_false, stencilref5_Same.p11010111111101010001_eq, cond_false]
                  cases decide ((0 : Int) < ((x.names.length : Nat) : Int)) <;> rfl
                simp only [hl, decide_true, Bool.not_true, cond_false, hnl, pt hl, true_or, if_true]
              · simp [hl, sm_len _ _ hl]
            · have h5 : ¬ (y.k = 5 ∨ y.k = 6) := by omega
              simp only [k2, k3, k4, k5, k6, h5, decide_false, cond_false, if_false, Bool.true_and, stencilref5_Same.p110101111111_eq, stencilref5_Same.p111_eq, or_self]
  · simp [hk]

theorem rsame_all (ts : Va) : RSameOk ts := by
  induction ts with
  | nil =>
    intro us n m S cs ds p q i L hS hT hp hq hF hG hs1 hs2
    obtain ⟨hL, hiL, _, _, _, _⟩ := hF
    obtain ⟨_, hjL, _, _, _, _⟩ := hG
    simp only [Va.len, Nat.add_zero] at hiL
    have hus : us.len = 0 := by omega
    obtain rfl := len_nil hus
    subst hiL
    have g5 : ld false 1 S (.mp n 0 5) = some p := m_get hS hp
    rw [stencilref5_Same.p110101111111011100_eq]
    simp only [g5, Option.bind_some, hL, Int.lt_irrefl, decide_false, cond_false, stencilref5_Same.p111_eq, sm]
  | cons x px rx ihp ihr =>
    intro us n m S cs ds p q i L hS hT hp hq hF hG hs1 hs2
    obtain ⟨hL, hiL, hL2, hpc, hpc2, hrow⟩ := hF
    obtain ⟨hM, hjL, _, hqc, hqc2, hrow2⟩ := hG
    simp only [Va.len] at hiL
    cases us with
    | nil => simp only [Va.len] at hjL; omega
    | cons y py ry =>
      simp only [Va.sz] at hs1 hs2
      obtain ⟨row, tok, rfl, hr⟩ : ∃ row tok, p = .is row L tok ∧ Row (.cons x px rx) (row.drop (i * 6)) := by
        rcases hrow with hrow | hrow
        · cases hrow
        · exact hrow
      obtain ⟨row2, tok2, rfl, hr2⟩ : ∃ row tok, q = .is row L tok ∧ Row (.cons y py ry) (row.drop (i * 6)) := by
        rcases hrow2 with hrow | hrow
        · cases hrow
        · exact hrow
      simp only [Va.len] at hjL
      obtain ⟨a, pl, hIn, hna, hpl, hr', hrl, hia⟩ := row_at hr
      have hia := hia L tok (by omega)
      obtain ⟨b, ql, hIn2, hnb, hql, hr2', hrl2, hib⟩ := row_at hr2
      have hib := hib L tok2 (by omega)
      have hlt : (((i : Nat) : Int) < ((L : Nat) : Int)) := by omega
      have w1 : IntKind.wrap .i64 (((i : Nat) : Int) + 1) = ((i + 1 : Nat) : Int) := w64 _ (by omega) (by omega)
      have g5 : ld false 1 S (.mp n 0 5) = some (.is row L tok) := m_get hS hp
      have k5 : ld false 1 S (.mp m 0 5) = some (.is row2 L tok2) := m_get hT hq
      have l6 : ld true 6 S (.ip (hcells x a pl)) = some (.agg (hcells x a pl)) := rfl
      have m6 : ld true 6 S (.ip (hcells y b ql)) = some (.agg (hcells y b ql)) := rfl
      have hone := rsame_of ihp (x := x) (y := y) (px := px) (py := py) (cs := hcells x a pl) (ds := hcells y b ql) ⟨a, pl, rfl, hIn, hna, hpl⟩ ⟨b, ql, rfl, hIn2, hnb, hql⟩ (by simp only [Va.sz]; omega) (by simp only [Va.sz]; omega) S
      have nxt := ihr ry n m S cs ds (.is row L tok) (.is row2 L tok2) (i + 1) L hS hT hp hq ⟨rfl, by omega, hL2, rfl, rfl, .inr ⟨row, tok, rfl, hr'⟩⟩ ⟨rfl, by omega, hL2, rfl, rfl, .inr ⟨row2, tok2, rfl, hr2'⟩⟩ (by omega) (by omega)
      rw [stencilref5_Same.p110101111111011100_eq]
      simp only [g5, k5, Option.bind_some, lenL, hlt, decide_true, cond_true, hia, hib, l6, m6, hone, Out.on, if_true, asB, w1, nxt]
      simp only [sm, same1]
      cases (sameH x y && (if x.k = 5 ∨ x.k = 6 then sm px py else true)) <;> simp

theorem refSame_spec {x y : Hd} {px py : Va} {cs ds : List AV} (h1 : One x px cs) (h2 : One y py ds) (hs1 : (Va.cons x px .nil).sz ≤ 1050000) (hs2 : (Va.cons y py .nil).sz ≤ 1050000) (st : Sto) :
    CallR ap 21 [.agg cs, .agg ds] st = some (.ret (.bool (same1 x px y py)), st) := rsame_of (rsame_all px) h1 h2 hs1 hs2 st
/-! ### The laws of keys and of the same -/
open Classical in
theorem sameH_comm (x y : Hd) : sameH x y = sameH y x := by
  unfold sameH
  by_cases hk : x.k = y.k
  · have e1 : (x.b == y.b) = (y.b == x.b) := Bool.beq_comm
    have e2 : decide (x.n = y.n) = decide (y.n = x.n) := decide_eq_decide.2 eq_comm
    have e3 : decide (x.s = y.s) = decide (y.s = x.s) := decide_eq_decide.2 eq_comm
    have e4 : decide (x.names = y.names) = decide (y.names = x.names) := decide_eq_decide.2 eq_comm
    rw [e1, e2, e3, e4, hk]
  · have : ¬ y.k = x.k := fun e => hk e.symm
    simp [hk, this]
theorem sameH_kind {x y : Hd} (h : sameH x y = true) : x.k = y.k := by
  unfold sameH at h
  simp only [Bool.and_eq_true, decide_eq_true_eq] at h
  exact h.1
theorem sm_comm : ∀ a b : Va, sm a b = sm b a := by
  intro a
  induction a with
  | nil => intro b; cases b <;> rfl
  | cons x px rx ihp ihr =>
    intro b
    cases b with
    | nil => rfl
    | cons y py ry =>
      simp only [sm, ihr ry, ihp py, sameH_comm x y]
      cases hh : sameH y x with
      | false => simp
      | true => rw [sameH_kind hh]
theorem same1_comm (x : Hd) (px : Va) (y : Hd) (py : Va) : same1 x px y py = same1 y py x px := by
  unfold same1
  rw [sm_comm px py, sameH_comm x y]
  cases hh : sameH y x with
  | false => simp
  | true => rw [sameH_kind hh]
theorem sameH_refl (x : Hd) : sameH x x = true := by
  unfold sameH
  simp
theorem sm_refl : ∀ a : Va, sm a a = true := by
  intro a
  induction a with
  | nil => rfl
  | cons x px rx ihp ihr => simp [sm, ihp, ihr, sameH_refl]
theorem same1_refl (x : Hd) (px : Va) : same1 x px x px = true := by simp [same1, sm_refl, sameH_refl]

theorem b_neg {n : Int} (h : ¬ n = 0) : (!decide (n = 0)) = true := by simp [h]

/-- Of two that may be keys the keys are the same just if the values are. -/
theorem key_same (x y : Hd) (px py : Va) (hx : keyErr x = 0) (hy : keyErr y = 0) : eqV .struct [.i, .i, .s] false (.agg (keyCells x)) (.agg (keyCells y)) = some (same1 x px y py) := by
  unfold keyErr at hx hy
  by_cases x3 : x.k = 3
  · by_cases y3 : y.k = 3
    · by_cases hn : x.n = y.n <;> simp [keyCells, x3, y3, eqV, eqCells, eqF, same1, sameH, hn]
    · rw [if_neg y3] at hy
      by_cases y4 : y.k = 4
      · simp [keyCells, x3, y4, eqV, eqCells, eqF, same1, sameH]
      · rw [if_neg y4] at hy; cases hy
  · rw [if_neg x3] at hx
    by_cases x4 : x.k = 4
    · by_cases y3 : y.k = 3
      · simp [keyCells, x4, y3, eqV, eqCells, eqF, same1, sameH]
      · rw [if_neg y3] at hy
        by_cases y4 : y.k = 4
        · by_cases hs : x.s = y.s <;> simp [keyCells, x4, y4, eqV, eqCells, eqF, same1, sameH, hs]
        · rw [if_neg y4] at hy; cases hy
    · rw [if_neg x4] at hx; cases hx
theorem key_text {x : Hd} (hx : keyErr x = 0) : (textOut x).2 = 0 := by
  unfold keyErr at hx
  by_cases x3 : x.k = 3
  · simp [textOut, x3]
  · rw [if_neg x3] at hx
    by_cases x4 : x.k = 4
    · simp [textOut, x4]
    · rw [if_neg x4] at hx; cases hx
theorem same_text {x y : Hd} {px py : Va} (hx : keyErr x = 0) (h : same1 x px y py = true) : (textOut x).1 = (textOut y).1 := by
  have hk : x.k = y.k := by
    unfold same1 at h
    exact sameH_kind (Bool.and_eq_true_iff.1 h).1
  unfold same1 sameH at h
  unfold keyErr at hx
  by_cases x3 : x.k = 3
  · have y3 : y.k = 3 := by omega
    simp [x3, y3] at h
    simp [textOut, x3, y3, h]
  · rw [if_neg x3] at hx
    by_cases x4 : x.k = 4
    · have y4 : y.k = 4 := by omega
      simp [x4, y4] at h
      simp [textOut, x4, y4, h]
    · rw [if_neg x4] at hx; cases hx

theorem keys_at {x y : Hd} {px py : Va} {cs ds : List AV} (h1 : One x px cs) (h2 : One y py ds) (hs1 : (Va.cons x px .nil).sz ≤ 1050000) (hs2 : (Va.cons y py .nil).sz ≤ 1050000) : CallR ap 6 [.agg cs, .agg ds] [] = some (.ret (.bool true), []) := by
  have hs1' := hs1
  have hs2' := hs2
  simp only [Va.sz] at hs1' hs2'
  have c6 : cs.length = 6 := by obtain ⟨a, p, rfl, _⟩ := h1; rfl
  have d6 : ds.length = 6 := by obtain ⟨a, p, rfl, _⟩ := h2; rfl
  have hk3 : ∀ z : Hd, (keyCells z).all AV.isCell = true ∧ (keyCells z).length = 3 := by
    intro z
    unfold keyCells
    split
    · exact ⟨rfl, rfl⟩
    · split <;> exact ⟨rfl, rfl⟩
  have hk : ∀ S : Sto, Keeps ([] : Sto).length [] S := fun S => ⟨by simp, fun i hi => by simp at hi⟩
  have e0 : ([] : Sto).length = 0 := rfl
  have e1 : (([] : Sto) ++ [Ob.cells 0 cs 0]).length = 1 := rfl
  obtain ⟨B, hB⟩ : ∃ B, B = (([] : Sto) ++ [Ob.cells 0 cs 0]) ++ [Ob.cells 0 ds 0] := ⟨_, rfl⟩
  have lB0 : ld true 6 B (.mp 0 0 0) = some (.agg cs) := by rw [hB]; exact m_all (g := 0) (fz := 0) (by simp) c6
  have lB1 : ld true 6 B (.mp 1 0 0) = some (.agg ds) := by rw [hB]; exact m_all (g := 0) (fz := 0) (by simp) d6
  obtain ⟨b, hb⟩ := shallow_spec h1 (by omega) B
  obtain ⟨b2, hb2⟩ := shallow_spec h2 (by omega) B
  rw [stencillaw5_ValueKeys.call]
  suffices hf : ∃ st', stencillaw5_ValueKeys.b (.agg cs) (.agg ds) [] = some ⟨.ret (.bool true), none, st'⟩ by
    obtain ⟨st', hf⟩ := hf
    exact ret_keep hf rfl rfl (hk _)
  rw [stencillaw5_ValueKeys.b_eq, agg_cells, agg_cells, if_pos h1.all, if_pos h2.all, ← hB, e0, e1]
  have p1t : stencillaw5_ValueKeys.p1101 0 1 true B = some ⟨.ret (.bool true), none, B⟩ := by rw [stencillaw5_ValueKeys.p1101_eq]; rfl
  have main : ∃ st', stencillaw5_ValueKeys.p1101 0 1 false B = some ⟨.ret (.bool true), none, st'⟩ := by
    obtain ⟨tx, te, htx⟩ : ∃ (t : ByteArray) (e : Int), textAV x = .tup [.str t, .int .i64 e] ∧ (keyErr x = 0 → e = 0) ∧ t = (textOut x).1 := ⟨_, _, rfl, fun h => by rw [key_text h]; rfl, rfl⟩
    obtain ⟨ty, tf, hty⟩ : ∃ (t : ByteArray) (e : Int), textAV y = .tup [.str t, .int .i64 e] ∧ (keyErr y = 0 → e = 0) ∧ t = (textOut y).1 := ⟨_, _, rfl, fun h => by rw [key_text h]; rfl, rfl⟩
    have T1 := textV_spec h1
    have T2 := textV_spec h2
    rw [htx.1] at T1
    rw [hty.1] at T2
    have K1 := key_spec h1
    have K2 := key_spec h2
    unfold keyAV at K1 K2
    have hks := key_same x y px py
    have hts := same_text (x := x) (y := y) (px := px) (py := py)
    have hk3x := hk3 x
    have hk3y := hk3 y
    rw [← htx.2.2, ← hty.2.2] at hts
    have htx2 := htx.2.1
    have hty2 := hty.2.1
    generalize keyCells x = K at hk3x K1 hks
    generalize keyCells y = M at hk3y K2 hks
    generalize keyErr x = ke at K1 hks hts htx2
    generalize keyErr y = kf at K2 hks hty2
    obtain ⟨C, hC⟩ : ∃ C, C = B ++ [Ob.cells 0 K 0] := ⟨_, rfl⟩
    obtain ⟨D, hD⟩ : ∃ D, D = C ++ [Ob.cells 0 M 0] := ⟨_, rfl⟩
    have sC : sto 3 (B ++ [Ob.cells 0 [.int .i64 0, .int .i64 0, .str ⟨#[]⟩] 0]) (.mp B.length 0 0) (.agg K) = some C := by rw [hC]; exact m_new (cs := [.int .i64 0, .int .i64 0, .str ⟨#[]⟩]) (cs' := K) hk3x.1 hk3x.2 rfl
    have sD : sto 3 (C ++ [Ob.cells 0 [.int .i64 0, .int .i64 0, .str ⟨#[]⟩] 0]) (.mp C.length 0 0) (.agg M) = some D := by rw [hD]; exact m_new (cs := [.int .i64 0, .int .i64 0, .str ⟨#[]⟩]) (cs' := M) hk3y.1 hk3y.2 rfl
    have lC1 : ld true 6 C (.mp 1 0 0) = some (.agg ds) := m_all (g := 0) (fz := 0) (by rw [hC, hB]; simp) d6
    have lD0 : ld true 6 D (.mp 0 0 0) = some (.agg cs) := m_all (g := 0) (fz := 0) (by rw [hD, hC, hB]; simp) c6
    have lD1 : ld true 6 D (.mp 1 0 0) = some (.agg ds) := m_all (g := 0) (fz := 0) (by rw [hD, hC, hB]; simp) d6
    have lD2 : ld true 3 D (.mp B.length 0 0) = some (.agg K) := m_all (g := 0) (fz := 0) (by rw [hD, hC]; simp) hk3x.2
    have lD3 : ld true 3 D (.mp C.length 0 0) = some (.agg M) := m_all (g := 0) (fz := 0) (by rw [hD]; simp) hk3y.2
    have stop : stencillaw5_ValueKeys.p1111101 0 1 B.length C.length true D = some ⟨.ret (.bool true), none, D⟩ := by rw [stencillaw5_ValueKeys.p1111101_eq]; rfl
    refine ⟨D, ?_⟩
    rw [stencillaw5_ValueKeys.p1101_eq]
    refine (bf rfl).trans ?_
    refine (br lB0).trans ?_
    refine (cr (K1 B)).trans ?_
    refine (br (x0 _ _)).trans ?_
    refine (br (x1 _ _ _)).trans ?_
    refine (br sC).trans ?_
    refine (br lC1).trans ?_
    refine (cr (K2 C)).trans ?_
    refine (br (x0 _ _)).trans ?_
    refine (br (x1 _ _ _)).trans ?_
    refine (br sD).trans ?_
    refine (cr (num_spec _ _)).trans ?_
    refine (br (aI _)).trans ?_
    by_cases hke : ke = 0
    · subst hke
      refine (bf rfl).trans ?_
      refine (cr (num_spec _ _)).trans ?_
      refine (br (aI _)).trans ?_
      by_cases hkf : kf = 0
      · subst hkf
        show stencillaw5_ValueKeys.p1111101 0 1 B.length C.length false D = _
        rw [htx2 rfl] at T1
        rw [hty2 rfl] at T2
        rw [stencillaw5_ValueKeys.p1111101_eq]
        refine (bf rfl).trans ?_
        refine (br lD0).trans ?_
        refine (cr (T1 D)).trans ?_
        refine (br (x0 _ _)).trans ?_
        refine (br (x1 _ _ _)).trans ?_
        refine (br lD1).trans ?_
        refine (cr (T2 D)).trans ?_
        refine (br (x0 _ _)).trans ?_
        refine (br (x1 _ _ _)).trans ?_
        refine (cr (num_spec _ _)).trans ?_
        refine (it rfl).trans ?_
        refine (br (aI _)).trans ?_
        refine (bt rfl).trans ?_
        refine (cr (num_spec _ _)).trans ?_
        refine (it rfl).trans ?_
        refine (br (aI _)).trans ?_
        refine (bt rfl).trans ?_
        refine (br lD2).trans ?_
        refine (br lD3).trans ?_
        refine (br (hks rfl rfl)).trans ?_
        refine (br lD0).trans ?_
        refine (br lD1).trans ?_
        refine (cr (same_spec h1 h2 hs1 hs2 D)).trans ?_
        refine (it rfl).trans ?_
        refine (br (eqB _ _ _ _)).trans ?_
        refine (bt (beq_self_eq_true _)).trans ?_
        refine (br lD2).trans ?_
        refine (br lD3).trans ?_
        refine (br (hks rfl rfl)).trans ?_
        cases hsm : same1 x px y py with
        | false => exact bt rfl
        | true =>
          refine (bf rfl).trans ?_
          refine (br (aS _)).trans ?_
          refine (br (aS _)).trans ?_
          rw [hts rfl hsm]
          simp
      · have : (!decide (((kf : Nat) : Int) = 0)) = true := b_neg (by omega)
        show stencillaw5_ValueKeys.p1111101 0 1 B.length C.length (!decide (((kf : Nat) : Int) = 0)) D = _
        rw [this]
        exact stop
    · refine (bt (b_neg (by omega))).trans ?_
      exact stop
  refine Exists.elim main fun st' hmain => ?_
  cases b with
  | false =>
    refine ⟨B, ?_⟩
    refine (cr (awakeV B)).trans ?_
    refine (br (aB _)).trans ?_
    refine (bf rfl).trans ?_
    refine (br lB0).trans ?_
    refine (cr hb).trans ?_
    refine (br (aB _)).trans ?_
    refine (bt rfl).trans ?_
    exact p1t
  | true =>
    cases b2 with
    | false =>
      refine ⟨B, ?_⟩
      refine (cr (awakeV B)).trans ?_
      refine (br (aB _)).trans ?_
      refine (bf rfl).trans ?_
      refine (br lB0).trans ?_
      refine (cr hb).trans ?_
      refine (br (aB _)).trans ?_
      refine (bf rfl).trans ?_
      refine (br lB1).trans ?_
      refine (cr hb2).trans ?_
      refine (br (aB _)).trans ?_
      exact p1t
    | true =>
      refine ⟨st', ?_⟩
      refine (cr (awakeV B)).trans ?_
      refine (br (aB _)).trans ?_
      refine (bf rfl).trans ?_
      refine (br lB0).trans ?_
      refine (cr hb).trans ?_
      refine (br (aB _)).trans ?_
      refine (bf rfl).trans ?_
      refine (br lB1).trans ?_
      refine (cr hb2).trans ?_
      refine (br (aB _)).trans ?_
      exact hmain
theorem keys_law {n m : Nat} {l k : List AV} (h : Shp ap n 25 l) (hb : bulks l ≤ 1048576) (h2 : Shp ap m 25 k) (hb2 : bulks k ≤ 1048576) : CallR ap 6 [.agg l, .agg k] [] = some (.ret (.bool true), []) := by
  obtain ⟨x, px, o1, o2⟩ := val_shape n l h
  obtain ⟨y, py, q1, q2⟩ := val_shape m k h2
  exact keys_at o1 q1 (by omega) (by omega)

theorem sames_at {x y : Hd} {px py : Va} {cs ds : List AV} (h1 : One x px cs) (h2 : One y py ds) (hs1 : (Va.cons x px .nil).sz ≤ 1050000) (hs2 : (Va.cons y py .nil).sz ≤ 1050000) : CallR ap 4 [.agg cs, .agg ds] [] = some (.ret (.bool true), []) := by
  have hs1' := hs1
  have hs2' := hs2
  simp only [Va.sz] at hs1' hs2'
  have c6 : cs.length = 6 := by obtain ⟨a, p, rfl, _⟩ := h1; rfl
  have d6 : ds.length = 6 := by obtain ⟨a, p, rfl, _⟩ := h2; rfl
  have hk : ∀ S : Sto, Keeps ([] : Sto).length [] S := fun S => ⟨by simp, fun i hi => by simp at hi⟩
  have e0 : ([] : Sto).length = 0 := rfl
  have e1 : (([] : Sto) ++ [Ob.cells 0 cs 0]).length = 1 := rfl
  have ez : [AV.int .i64 0, .bool false, .int .i64 0, .str ⟨#[]⟩, .nils, .nils] = zeroV := rfl
  have hL := lend_one h1
  have hM := lend_one h2
  obtain ⟨A, hA⟩ : ∃ A, A = (([] : Sto) ++ [Ob.cells 0 cs 0]) ++ [Ob.cells 0 ds 0] := ⟨_, rfl⟩
  obtain ⟨B, hB⟩ : ∃ B, B = A ++ [Ob.cells 0 (lendV x px) 0] := ⟨_, rfl⟩
  obtain ⟨C, hC⟩ : ∃ C, C = B ++ [Ob.cells 0 (lendV y py) 0] := ⟨_, rfl⟩
  have lA0 : ld true 6 A (.mp 0 0 0) = some (.agg cs) := by rw [hA]; exact m_all (g := 0) (fz := 0) (by simp) c6
  have lA1 : ld true 6 A (.mp 1 0 0) = some (.agg ds) := by rw [hA]; exact m_all (g := 0) (fz := 0) (by simp) d6
  have sB : sto 6 (A ++ [Ob.cells 0 zeroV 0]) (.mp A.length 0 0) (.agg (lendV x px)) = some B := by rw [hB]; exact m_new (cs := zeroV) (cs' := lendV x px) rfl rfl rfl
  have sC : sto 6 (B ++ [Ob.cells 0 zeroV 0]) (.mp B.length 0 0) (.agg (lendV y py)) = some C := by rw [hC]; exact m_new (cs := zeroV) (cs' := lendV y py) rfl rfl rfl
  have lB1 : ld true 6 B (.mp 1 0 0) = some (.agg ds) := m_all (g := 0) (fz := 0) (by rw [hB, hA]; simp) d6
  have lC0 : ld true 6 C (.mp 0 0 0) = some (.agg cs) := m_all (g := 0) (fz := 0) (by rw [hC, hB, hA]; simp) c6
  have lC1 : ld true 6 C (.mp 1 0 0) = some (.agg ds) := m_all (g := 0) (fz := 0) (by rw [hC, hB, hA]; simp) d6
  have lC2 : ld true 6 C (.mp A.length 0 0) = some (.agg (lendV x px)) := m_all (g := 0) (fz := 0) (by rw [hC, hB]; simp) rfl
  have lC3 : ld true 6 C (.mp B.length 0 0) = some (.agg (lendV y py)) := m_all (g := 0) (fz := 0) (by rw [hC]; simp) rfl
  have hcp := copyC_one x px (by obtain ⟨a, p, _, h, _⟩ := h1; exact h) (by obtain ⟨a, p, _, _, _, h⟩ := h1; exact h.ok)
  have hsy := same_spec hM hL hs2 hs1 C
  rw [same1_comm] at hsy
  have hsr := same_spec hL hcp hs1 hs1 C
  rw [same1_refl] at hsr
  obtain ⟨b, hb⟩ := shallow_spec h1 (by omega) A
  obtain ⟨b2, hb2⟩ := shallow_spec h2 (by omega) A
  rw [stencillaw5_ValueSames.call]
  suffices hf : ∃ st', stencillaw5_ValueSames.b (.agg cs) (.agg ds) [] = some ⟨.ret (.bool true), none, st'⟩ by
    obtain ⟨st', hf⟩ := hf
    exact ret_keep hf rfl rfl (hk _)
  rw [stencillaw5_ValueSames.b_eq, agg_cells, agg_cells, if_pos h1.all, if_pos h2.all, ← hA, e0, e1]
  have p1t : stencillaw5_ValueSames.p101 0 1 true A = some ⟨.ret (.bool true), none, A⟩ := by rw [stencillaw5_ValueSames.p101_eq]; rfl
  have main : stencillaw5_ValueSames.p101 0 1 false A = some ⟨.ret (.bool true), none, C⟩ := by
    rw [stencillaw5_ValueSames.p101_eq, ez]
    refine (bf rfl).trans ?_
    refine (br lA0).trans ?_
    refine (cr (lendValue_spec h1 hs1 A)).trans ?_
    refine (br sB).trans ?_
    refine (br lB1).trans ?_
    refine (cr (lendValue_spec h2 hs2 B)).trans ?_
    refine (br sC).trans ?_
    refine (br lC2).trans ?_
    refine (br lC3).trans ?_
    refine (cr (same_spec hL hM hs1 hs2 C)).trans ?_
    refine (br lC0).trans ?_
    refine (br lC1).trans ?_
    refine (cr (refSame_spec h1 h2 hs1 hs2 C)).trans ?_
    refine (it rfl).trans ?_
    refine (br (eqB _ _ _ _)).trans ?_
    refine (bt (beq_self_eq_true _)).trans ?_
    refine (br lC3).trans ?_
    refine (br lC2).trans ?_
    refine (cr hsy).trans ?_
    refine (it rfl).trans ?_
    refine (br (eqB _ _ _ _)).trans ?_
    refine (bt (beq_self_eq_true _)).trans ?_
    refine (br lC2).trans ?_
    refine (br lC0).trans ?_
    refine (cr (copyValue_spec h1 hs1 C)).trans ?_
    refine (it rfl).trans ?_
    refine (cr hsr).trans ?_
    refine (it rfl).trans ?_
    refine (br (aB _)).trans ?_
    refine (bt rfl).trans ?_
    refine (br lC2).trans ?_
    refine (br lC0).trans ?_
    refine (cr (keptValue_spec h1 hs1 C)).trans ?_
    refine (it rfl).trans ?_
    refine (br (aB _)).trans ?_
    refine (bt rfl).trans ?_
    refine (br lC3).trans ?_
    refine (br lC1).trans ?_
    refine (cr (keptValue_spec h2 hs2 C)).trans ?_
    refine (it rfl).trans ?_
    refine (br (aB _)).trans ?_
    refine (bt rfl).trans ?_
    refine (cr (awakeV C)).trans ?_
    refine (it rfl).trans ?_
    refine (br (aB _)).trans ?_
    rfl
  cases b with
  | false =>
    refine ⟨A, ?_⟩
    refine (br lA0).trans ?_
    refine (cr hb).trans ?_
    refine (br (aB _)).trans ?_
    refine (bt rfl).trans ?_
    exact p1t
  | true =>
    cases b2 with
    | false =>
      refine ⟨A, ?_⟩
      refine (br lA0).trans ?_
      refine (cr hb).trans ?_
      refine (br (aB _)).trans ?_
      refine (bf rfl).trans ?_
      refine (br lA1).trans ?_
      refine (cr hb2).trans ?_
      refine (br (aB _)).trans ?_
      exact p1t
    | true =>
      refine ⟨C, ?_⟩
      refine (br lA0).trans ?_
      refine (cr hb).trans ?_
      refine (br (aB _)).trans ?_
      refine (bf rfl).trans ?_
      refine (br lA1).trans ?_
      refine (cr hb2).trans ?_
      refine (br (aB _)).trans ?_
      exact main
theorem sames_law {n m : Nat} {l k : List AV} (h : Shp ap n 25 l) (hb : bulks l ≤ 1048576) (h2 : Shp ap m 25 k) (hb2 : bulks k ≤ 1048576) : CallR ap 4 [.agg l, .agg k] [] = some (.ret (.bool true), []) := by
  obtain ⟨x, px, o1, o2⟩ := val_shape n l h
  obtain ⟨y, py, q1, q2⟩ := val_shape m k h2
  exact sames_at o1 q1 (by omega) (by omega)
end Go.Proofs.YtiiooldjegoikaaDoor
