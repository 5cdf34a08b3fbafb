/- Values in memory: held against others, spoilt. -/
import Derived.Test.YtiiooldjegoikaaDoorVQ
namespace Go.Proofs.YtiiooldjegoikaaDoor
open Go.St Go.Lib
set_option linter.unusedVariables false
set_option linter.unusedSimpArgs false

/-! ### Held against others -/
/-- Names that can be read. -/
def RdN (st : Sto) (l : List ByteArray) (v : AV) : Prop := lenL v = some l.length ∧ ∀ pre x suf, l = pre ++ x :: suf → ∃ q, ia 1 v (.int .i64 ((pre.length : Nat) : Int)) = some q ∧ ld false 1 st q = some (.str x)
theorem NamV.rd {l : List ByteArray} {v : AV} (h : NamV l v) (st : Sto) : RdN st l v := ⟨h.len, fun pre x suf e => ⟨_, nam_at (by rw [← e]; exact h) rfl, rfl⟩⟩
theorem NamM.rd {st : Sto} {l : List ByteArray} {v : AV} {lo hi : Nat} (h : NamM st l v lo hi) : RdN st l v := by
  refine ⟨h.cell.2.2, fun pre x suf e => ?_⟩
  rcases h with ⟨rfl, _⟩ | ⟨id, _, _, h3, rfl, h5⟩
  · simp at e
  · refine ⟨.mp id 0 pre.length, ?_, m_get h5 (by rw [e, ncells_app]; simp [ncells])⟩
    simp only [ia, if_true, idx_nat (show pre.length < l.length by rw [e]; simp), Option.bind_some, Nat.zero_add, Nat.mul_one]

theorem sameTextsR {l : List ByteArray} {v w : AV} {st : Sto} (hv : RdN st l v) (hw : RdN st l w) (hs : l.length ≤ 1050000) : CallR ap 50 [v, w] st = some (.ret (.bool true), st) := by
  have loop : ∀ (suf pre : List ByteArray), l = pre ++ suf → stencillaw0_SameTexts.p110100 v w ((pre.length : Nat) : Int) st = some ⟨.ret (.bool true), none, st⟩ := by
    intro suf
    induction suf with
    | nil =>
      intro pre hp
      rw [List.append_nil] at hp
      rw [stencillaw0_SameTexts.p110100_eq]
      simp only [hv.1, Option.bind_some, hp, Int.lt_irrefl, decide_false, cond_false]
    | cons x r ih =>
      intro pre hp
      have hlt : (((pre.length : Nat) : Int) < ((l.length : Nat) : Int)) := by rw [hp]; simp; omega
      have hlen : pre.length < l.length := by rw [hp]; simp
      have hwr : IntKind.wrap .i64 (((pre.length : Nat) : Int) + 1) = (((pre ++ [x]).length : Nat) : Int) := by
        rw [w64 (pre.length + 1) (by omega) (by omega)]
        simp
      obtain ⟨q1, a1, a2⟩ := hv.2 pre x r hp
      obtain ⟨q2, b1, b2⟩ := hw.2 pre x r hp
      have nxt := ih (pre ++ [x]) (by rw [hp]; simp)
      rw [stencillaw0_SameTexts.p110100_eq]
      simp only [hv.1, Option.bind_some, hlt, decide_true, cond_true, a1, a2, b1, b2, asS, Bool.not_true, cond_false, hwr, nxt]
  have := loop l [] rfl
  simp only [List.length_nil, Int.natCast_zero] at this
  rw [stencillaw0_SameTexts.call]
  refine ret_keep ?_ rfl rfl (Keeps.refl _ _)
  rw [stencillaw0_SameTexts.b_eq]
  simp only [hv.1, hw.1, Option.bind_some, decide_true, Bool.not_true, cond_false, this]

theorem m_six {st : Sto} {id : Nat} {pre mid post : List AV} (h : st[id]? = some (.cells 0 (pre ++ mid ++ post) 0)) (hm : mid.length = 6) : ld true 6 st (.mp id 0 pre.length) = some (.agg mid) := by
  have h1 : pre.length + 6 ≤ (pre ++ mid ++ post).length := by simp; omega
  have h2 : ((pre ++ mid ++ post).drop pre.length).take 6 = mid := by
    rw [List.append_assoc, List.drop_left, ← hm, List.take_left]
  simp only [ld, ldCells, h, h1, true_and, if_true, Option.bind_some, h2]
  rfl

def SameMOk (ts : Va) : Prop := ∀ (S : Sto) (lid i L : Nat) (pre prow row : List AV) (tok : Tok) (lo hi : Nat), S[lid]? = some (.cells 0 (pre ++ prow) 0) → pre.length = i * 6 → RowM S ts prow lo hi → hi ≤ S.length → Row ts (row.drop (i * 6)) → i + ts.len = L → L ≤ 1050000 → ts.sz ≤ 1050000 →
  stencillaw0_SameValues.p110100 (.ms lid 0 0 L 6) (.is row L tok) ((i : Nat) : Int) S = some ⟨.ret (.bool true), none, S⟩

theorem sameM_of {h : Hd} {parts : Va} {mrow ds : List AV} {S : Sto} {lo hi : Nat} (H : SameMOk parts) (hm : RowM S (.cons h parts .nil) mrow lo hi) (hhi : hi ≤ S.length) (h2 : One h parts ds) (hs : (Va.cons h parts .nil).sz ≤ 1050000) : CallR ap 31 [.agg mrow, .agg ds] S = some (.ret (.bool true), S) := by
  simp only [Va.sz] at hs
  have hall := hm.all
  have hall2 := h2.all
  have nl := nsz_len h.names
  have pl := len_sz parts
  obtain ⟨T, hT⟩ : ∃ T, T = (S ++ [Ob.cells 0 mrow 0]) ++ [Ob.cells 0 ds 0] := ⟨_, rfl⟩
  have hmT : RowM T (.cons h parts .nil) mrow lo hi := hm.mono fun j _ hj => by rw [hT, List.append_assoc, List.getElem?_append_left (by omega)]
  have hlT : S.length ≤ T.length := by rw [hT]; simp only [List.length_append]; omega
  have e1 : (S ++ [Ob.cells 0 mrow 0]).length = S.length + 1 := by simp
  have hT0 : T[S.length]? = some (.cells 0 mrow 0) := by rw [hT]; exact get_mid
  have hT1 : T[S.length + 1]? = some (.cells 0 ds 0) := by rw [hT, ← e1]; exact get_last
  obtain ⟨a, p, r, m1, m2, hr, hIn, hr0, hna, hpp⟩ := hmT
  rw [hr0.1, List.append_nil] at hr
  obtain ⟨b, q, hds, hIn2, hnb, hqq⟩ := h2
  have a0 := fun n x (hx : mrow[n]? = some x) => m_get (st := T) (x := x) (n := n) (g := 0) (fz := 0) hT0 hx
  have b0 := fun n x (hx : ds[n]? = some x) => m_get (st := T) (x := x) (n := n) (g := 0) (fz := 0) hT1 hx
  have hn := sameTextsR (st := T) hna.rd (hnb.rd T) (by omega)
  have hparts : CallR ap 51 [p, q] T = some (.ret (.bool true), T) := by
    rw [stencillaw0_SameValues.call]
    refine ret_keep ?_ rfl rfl (Keeps.refl _ _)
    rw [stencillaw0_SameValues.b_eq]
    rcases hpp with ⟨e1, e2, _⟩ | ⟨id, prow, e1, e2, e3, rfl, e5, e6⟩
    · have hl : lenL p = some 0 := by rcases e2 with rfl | rfl <;> rfl
      simp only [hl, hqq.len, e1, Option.bind_some, decide_true, Bool.not_true, cond_false]
      rw [stencillaw0_SameValues.p110100_eq]
      simp only [hl, Option.bind_some, Int.natCast_zero, Int.lt_irrefl, decide_false, cond_false]
    · have hl : lenL (.ms id 0 0 parts.len 6) = some parts.len := rfl
      simp only [hl, hqq.len, Option.bind_some, decide_true, Bool.not_true, cond_false]
      rcases hqq with ⟨e7, _⟩ | ⟨row, tok, rfl, hrow⟩
      · omega
      · have := H T id 0 parts.len [] prow row tok (id + 1) hi (by simpa using e5) rfl e6 (by omega) (by simpa using hrow) (by omega) (by omega) (by omega)
        simpa using this
  rw [stencillaw0_SameValue.call]
  refine ret_keep (st' := T) ?_ rfl rfl (by rw [hT, List.append_assoc]; exact Keeps.app (Nat.le_refl _))
  rw [stencillaw0_SameValue.b_eq, agg_cells, agg_cells, if_pos hall, if_pos hall2, ← hT, e1]
  simp only [a0 0 (.int .i64 h.k) (by rw [hr]; rfl), b0 0 (.int .i64 h.k) (by rw [hds]; rfl), a0 1 (.bool h.b) (by rw [hr]; rfl), b0 1 (.bool h.b) (by rw [hds]; rfl), a0 2 (.int .i64 h.n) (by rw [hr]; rfl), b0 2 (.int .i64 h.n) (by rw [hds]; rfl), a0 3 (.str h.s) (by rw [hr]; rfl), b0 3 (.str h.s) (by rw [hds]; rfl), a0 4 a (by rw [hr]; rfl), b0 4 b (by rw [hds]; rfl), a0 5 p (by rw [hr]; rfl), b0 5 q (by rw [hds]; rfl), Option.bind_some, asS, asI, eqB, beq_self_eq_true, if_true, decide_true, cond_true, hn, Out.on, asB, hparts]

theorem sameM_all (ts : Va) : SameMOk ts := by
  induction ts with
  | nil =>
    intro S lid i L pre prow row tok lo hi hlid hpre hm hhi hr hL hL2 hs
    simp only [Va.len, Nat.add_zero] at hL
    subst hL
    rw [stencillaw0_SameValues.p110100_eq]
    simp only [lenL, Option.bind_some, Int.lt_irrefl, decide_false, cond_false]
  | cons h parts rest ihp ihr =>
    intro S lid i L pre prow row tok lo hi hlid hpre hm hhi hr hL hL2 hs
    simp only [Va.len] at hL
    simp only [Va.sz] at hs
    obtain ⟨a, pl, hIn, hna, hpl, hr', hrl, hia⟩ := row_at hr
    have hia := hia L tok (by omega)
    have hm0 := hm
    obtain ⟨b, q, r, m1, m2, rfl, hIn2, hr0, hnb, hqq⟩ := hm
    have hlt : (((i : Nat) : Int) < ((L : Nat) : Int)) := by omega
    have w1 : IntKind.wrap .i64 (((i : Nat) : Int) + 1) = ((i + 1 : Nat) : Int) := w64 _ (by omega) (by omega)
    have hib : ia 6 (.ms lid 0 0 L 6) (.int .i64 ((i : Nat) : Int)) = some (.mp lid 0 pre.length) := by
      simp only [ia, if_true, idx_nat (show i < L by omega), Option.bind_some, Nat.zero_add, hpre]
    have l6 : ld true 6 S (.ip (hcells h a pl)) = some (.agg (hcells h a pl)) := rfl
    have m6 : ld true 6 S (.mp lid 0 pre.length) = some (.agg (hcells h b q)) := m_six (post := r) (by rw [hlid]; simp) rfl
    have hl := hr0.le
    have hone := sameM_of ihp (h := h) (mrow := hcells h b q) (ds := hcells h a pl) (S := S) (lo := m1) (hi := hi) ⟨b, q, [], m1, m2, by simp, hIn2, ⟨rfl, Nat.le_refl _⟩, hnb, hqq⟩ hhi ⟨a, pl, rfl, hIn, hna, hpl⟩ (by simp only [Va.sz]; omega)
    have l1 := hnb.le
    have l2 : m2 ≤ hi := by rcases hqq with ⟨_, _, h3⟩ | ⟨id, prow, h3, h4, _⟩ <;> omega
    have nxt := ihr S lid (i + 1) L (pre ++ hcells h b q) r row tok lo m1 (by rw [hlid]; simp) (by simp [hcells, hpre]; omega) hr0 (by omega) hr' (by omega) hL2 (by omega)
    have hl0 : lenL (.ms lid 0 0 L 6) = some L := rfl
    rw [stencillaw0_SameValues.p110100_eq]
    simp only [hl0, Option.bind_some, hlt, decide_true, cond_true, hia, hib, l6, m6, hone, Out.on, if_true, asB, Bool.not_true, cond_false, w1, nxt]

theorem sameM_spec {h : Hd} {parts : Va} {mrow ds : List AV} {S : Sto} {lo hi : Nat} (hm : RowM S (.cons h parts .nil) mrow lo hi) (hhi : hi ≤ S.length) (h2 : One h parts ds) (hs : (Va.cons h parts .nil).sz ≤ 1050000) : CallR ap 31 [.agg mrow, .agg ds] S = some (.ret (.bool true), S) := sameM_of (sameM_all parts) hm hhi h2 hs

/-! ### Spoilt -/
theorem spoilT {S : Sto} {l : List ByteArray} {v : AV} {lo hi : Nat} (h : NamM S l v lo hi) (hs : nsz l ≤ 1050000) : ∃ S', CallR ap 52 [v] S = some (.ret (.tup []), S') ∧ S'.length = S.length ∧ ∀ j, (j < lo ∨ hi ≤ j) → S'[j]? = S[j]? := by
  have hl := nsz_len l
  rw [stencillaw0_SpoilTexts.call, stencillaw0_SpoilTexts.b_eq]
  rcases h with ⟨rfl, h2, _⟩ | ⟨id, h1, h2, h3, rfl, h5⟩
  · have hl : lenL v = some 0 := by rcases h2 with rfl | rfl <;> rfl
    refine ⟨S, ?_, rfl, fun _ _ => rfl⟩
    rw [stencillaw0_SpoilTexts.p100_eq]
    simp only [hl, Option.bind_some, Int.natCast_zero, Int.lt_irrefl, decide_false, cond_false]
    rw [gc_same rfl rfl]
  · have loop : ∀ (suf : List ByteArray) (done : List AV) (T : Sto), done.length + suf.length = l.length → nsz suf ≤ 1050000 → T[id]? = some (.cells 0 (done ++ ncells suf) 0) → ∃ T', stencillaw0_SpoilTexts.p100 (.ms id 0 0 l.length 1) ((done.length : Nat) : Int) T = some ⟨.ret (.tup []), none, T'⟩ ∧ T'.length = T.length ∧ ∀ j, j ≠ id → T'[j]? = T[j]? := by
      intro suf
      induction suf with
      | nil =>
        intro done T hd _ hT
        refine ⟨T, ?_, rfl, fun _ _ => rfl⟩
        rw [stencillaw0_SpoilTexts.p100_eq]
        simp only [List.length_nil, Nat.add_zero] at hd
        simp only [lenL, Option.bind_some, hd, Int.lt_irrefl, decide_false, cond_false]
      | cons x r ih =>
        intro done T hd hz hT
        simp only [List.length_cons] at hd
        simp only [nsz] at hz
        have hlt : (((done.length : Nat) : Int) < ((l.length : Nat) : Int)) := by omega
        have hia : ia 1 (.ms id 0 0 l.length 1) (.int .i64 ((done.length : Nat) : Int)) = some (.mp id 0 done.length) := by
          simp only [ia, if_true, idx_nat (show done.length < l.length by omega), Option.bind_some, Nat.zero_add, Nat.mul_one]
        have hg : ld false 1 T (.mp id 0 done.length) = some (.str x) := m_get hT (by simp [ncells])
        have hsz : ByteArray.size (⟨#[126]⟩ : ByteArray) + ByteArray.size x ≤ 9223372036854775807 := by
          have : ByteArray.size (⟨#[126]⟩ : ByteArray) = 1 := rfl
          omega
        have hst : sto 1 T (.mp id 0 done.length) (.str ((⟨#[126]⟩ : ByteArray) ++ x)) = some (T.set id (.cells 0 ((done ++ [.str ((⟨#[126]⟩ : ByteArray) ++ x)]) ++ ncells r) 0)) := by
          rw [sto_at hT (by simp [ncells]) rfl rfl]
          congr 3
          simp [ncells]
        have hw : IntKind.wrap .i64 (((done.length : Nat) : Int) + 1) = (((done ++ [AV.str ((⟨#[126]⟩ : ByteArray) ++ x)]).length : Nat) : Int) := by
          rw [w64 (done.length + 1) (by omega) (by omega)]
          simp
        have hidl := (List.getElem?_eq_some_iff.1 hT).1
        obtain ⟨T', e1, e2, e3⟩ := ih (done ++ [.str ((⟨#[126]⟩ : ByteArray) ++ x)]) (T.set id (.cells 0 ((done ++ [.str ((⟨#[126]⟩ : ByteArray) ++ x)]) ++ ncells r) 0)) (by simp; omega) (by omega) (List.getElem?_set_self hidl)
        refine ⟨T', ?_, by rw [e2, List.length_set], fun j hj => by rw [e3 j hj, List.getElem?_set_ne (Ne.symm hj)]⟩
        have hl0 : lenL (.ms id 0 0 l.length 1) = some l.length := rfl
        rw [stencillaw0_SpoilTexts.p100_eq]
        simp only [hl0, Option.bind_some, hlt, decide_true, cond_true, hia, hg, asS, hsz, if_true, hst, hw, e1]
    obtain ⟨T', e1, e2, e3⟩ := loop l [] S (by simp) hs (by simpa using h5)
    refine ⟨T', ?_, e2, fun j hj => e3 j (by omega)⟩
    simp only [List.length_nil, Int.natCast_zero] at e1
    rw [e1]
    simp only [Option.bind_some]
    rw [gc_same e2 rfl]

def SpoilOk (ts : Va) : Prop := ∀ (S : Sto) (lid i L : Nat) (pre row post : List AV) (lo hi : Nat), S[lid]? = some (.cells 0 (pre ++ row ++ post) 0) → pre.length = i * 6 → RowM S ts row lo hi → lid < lo → i + ts.len = L → L ≤ 1050000 → ts.sz ≤ 1050000 →
  ∃ S' row', stencillaw0_SpoilValues.p100 (.ms lid 0 0 L 6) ((i : Nat) : Int) S = some ⟨.ret (.tup []), none, S'⟩ ∧ S'.length = S.length ∧ S'[lid]? = some (.cells 0 (pre ++ row' ++ post) 0) ∧ ∀ j, j ≠ lid → (j < lo ∨ hi ≤ j) → S'[j]? = S[j]?

theorem spoil1_of {h : Hd} {parts : Va} (H : SpoilOk parts) {S : Sto} {lid : Nat} {pre row post : List AV} {lo hi : Nat} (hlid : S[lid]? = some (.cells 0 (pre ++ row ++ post) 0)) (hm : RowM S (.cons h parts .nil) row lo hi) (hlo : lid < lo ∨ hi ≤ lid) (hs : (Va.cons h parts .nil).sz ≤ 1050000) :
    ∃ S' row', CallR ap 32 [.mp lid 0 pre.length] S = some (.ret (.tup []), S') ∧ S'.length = S.length ∧ S'[lid]? = some (.cells 0 (pre ++ row' ++ post) 0) ∧ row'.length = row.length ∧ ∀ j, j ≠ lid → (j < lo ∨ hi ≤ j) → S'[j]? = S[j]? := by
  simp only [Va.sz] at hs
  have pl := len_sz parts
  obtain ⟨a, p, r, m1, m2, hr, hIn, hr0, hna, hpp⟩ := hm
  have hl1 := hr0.2
  rw [hr0.1, List.append_nil] at hr
  subst hr
  have hl2 := hna.le
  have hl3 : m2 ≤ hi := by rcases hpp with ⟨_, _, h3⟩ | ⟨id, prow, h3, h4, _⟩ <;> omega
  obtain ⟨S1, a1, a2, a3⟩ := spoilT hna (by omega)
  have g1 : S1[lid]? = some (.cells 0 (pre ++ hcells h a p ++ post) 0) := by rw [a3 lid (by omega)]; exact hlid
  have hparts : ∃ S2, CallR ap 53 [p] S1 = some (.ret (.tup []), S2) ∧ S2.length = S1.length ∧ ∀ j, (j < m2 ∨ hi ≤ j) → S2[j]? = S1[j]? := by
    rw [stencillaw0_SpoilValues.call, stencillaw0_SpoilValues.b_eq]
    rcases hpp with ⟨e1, e2, _⟩ | ⟨id, prow, e1, e2, e3, rfl, e5, e6⟩
    · have hl : lenL p = some 0 := by rcases e2 with rfl | rfl <;> rfl
      refine ⟨S1, ?_, rfl, fun _ _ => rfl⟩
      rw [stencillaw0_SpoilValues.p100_eq]
      simp only [hl, Option.bind_some, Int.natCast_zero, Int.lt_irrefl, decide_false, cond_false]
      rw [gc_same rfl rfl]
    · have e6' : RowM S1 parts prow (id + 1) hi := e6.mono fun j h1 h2 => a3 j (by omega)
      obtain ⟨S2, row', c1, c2, c3, c4⟩ := H S1 id 0 parts.len [] prow [] (id + 1) hi (by rw [a3 id (by omega)]; simpa using e5) rfl e6' (by omega) (by omega) (by omega) (by omega)
      refine ⟨S2, ?_, c2, fun j hj => c4 j (by omega) (by omega)⟩
      simp only [Int.natCast_zero] at c1
      rw [c1]
      simp only [Option.bind_some]
      rw [gc_same c2 rfl]
  obtain ⟨S2, b1, b2, b3⟩ := hparts
  have g2 : S2[lid]? = some (.cells 0 (pre ++ hcells h a p ++ post) 0) := by rw [b3 lid (by omega)]; exact g1
  have hn : nilCk (.mp lid 0 pre.length) = some (.mp lid 0 pre.length) := rfl
  have f4 : fa 4 1 (.mp lid 0 pre.length) = some (.mp lid 0 (pre.length + 4)) := rfl
  have f5 : fa 5 1 (.mp lid 0 pre.length) = some (.mp lid 0 (pre.length + 5)) := rfl
  have f0 : fa 0 1 (.mp lid 0 pre.length) = some (.mp lid 0 (pre.length + 0)) := rfl
  have r4 : ld false 1 S (.mp lid 0 (pre.length + 4)) = some a := m_get hlid (get_hc _ _ _ _ _ 4 a rfl)
  have r5 : ld false 1 S1 (.mp lid 0 (pre.length + 5)) = some p := m_get g1 (get_hc _ _ _ _ _ 5 p rfl)
  have r0 : ld false 1 S2 (.mp lid 0 (pre.length + 0)) = some (.int .i64 h.k) := m_get g2 (get_hc _ _ _ _ _ 0 _ rfl)
  have hidl := (List.getElem?_eq_some_iff.1 g2).1
  have st0 : sto 1 S2 (.mp lid 0 (pre.length + 0)) (.int .i64 (IntKind.wrap .i64 ((-9) - h.k))) = some (S2.set lid (.cells 0 (pre ++ hcells { h with k := IntKind.wrap .i64 ((-9) - h.k) } a p ++ post) 0)) := by
    rw [sto_at g2 (by simp [hcells]) rfl rfl]
    congr 3
    rw [List.append_assoc, List.set_append_right _ _ (by omega), List.append_assoc]
    congr 1
    rw [show pre.length + 0 - pre.length = 0 by omega]
    rfl
  refine ⟨S2.set lid (.cells 0 (pre ++ hcells { h with k := IntKind.wrap .i64 ((-9) - h.k) } a p ++ post) 0), hcells { h with k := IntKind.wrap .i64 ((-9) - h.k) } a p, ?_, by rw [List.length_set, b2, a2], List.getElem?_set_self hidl, rfl, fun j hj hj2 => by rw [List.getElem?_set_ne (Ne.symm hj), b3 j (by omega), a3 j (by omega)]⟩
  rw [stencillaw0_SpoilValue.call, stencillaw0_SpoilValue.b_eq]
  simp only [hn, f4, f5, f0, Option.bind_some, r4, a1, Out.on, r5, b1, r0, asI, if_true, st0]
  rw [gc_same (by rw [List.length_set, b2, a2]) rfl]

theorem spoil_all (ts : Va) : SpoilOk ts := by
  induction ts with
  | nil =>
    intro S lid i L pre row post lo hi hlid hpre hm hlo hL hL2 hs
    simp only [Va.len, Nat.add_zero] at hL
    subst hL
    refine ⟨S, row, ?_, rfl, hlid, fun _ _ _ => rfl⟩
    rw [stencillaw0_SpoilValues.p100_eq]
    simp only [lenL, Option.bind_some, Int.lt_irrefl, decide_false, cond_false]
  | cons h parts rest ihp ihr =>
    intro S lid i L pre row post lo hi hlid hpre hm hlo hL hL2 hs
    simp only [Va.len] at hL
    simp only [Va.sz] at hs
    obtain ⟨b, q, r, m1, m2, rfl, hIn2, hr0, hnb, hqq⟩ := hm
    have hl := hr0.le
    have l1 := hnb.le
    have l2 : m2 ≤ hi := by rcases hqq with ⟨_, _, h3⟩ | ⟨id, prow, h3, h4, _⟩ <;> omega
    have hlt : (((i : Nat) : Int) < ((L : Nat) : Int)) := by omega
    have w1 : IntKind.wrap .i64 (((i : Nat) : Int) + 1) = ((i + 1 : Nat) : Int) := w64 _ (by omega) (by omega)
    have hib : ia 6 (.ms lid 0 0 L 6) (.int .i64 ((i : Nat) : Int)) = some (.mp lid 0 pre.length) := by
      simp only [ia, if_true, idx_nat (show i < L by omega), Option.bind_some, Nat.zero_add, hpre]
    obtain ⟨S1, row1, a1, a2, a3, a4, a5⟩ := spoil1_of ihp (h := h) (S := S) (lid := lid) (pre := pre) (row := hcells h b q) (post := r ++ post) (lo := m1) (hi := hi) (by rw [hlid]; simp) ⟨b, q, [], m1, m2, by simp, hIn2, ⟨rfl, Nat.le_refl _⟩, hnb, hqq⟩ (by omega) (by simp only [Va.sz]; omega)
    have a4 : row1.length = 6 := a4
    obtain ⟨S2, row2, b1, b2, b3, b4⟩ := ihr S1 lid (i + 1) L (pre ++ row1) r post lo m1 (by rw [a3]; simp) (by simp [hpre, a4]; omega) (hr0.mono fun j h1 h2 => a5 j (by omega) (by omega)) hlo (by omega) hL2 (by omega)
    refine ⟨S2, row1 ++ row2, ?_, by rw [b2, a2], by rw [b3]; simp, fun j hj hj2 => by rw [b4 j hj (by omega), a5 j hj (by omega)]⟩
    have hl0 : lenL (.ms lid 0 0 L 6) = some L := rfl
    rw [stencillaw0_SpoilValues.p100_eq]
    simp only [hl0, Option.bind_some, hlt, decide_true, cond_true, hib, a1, Out.on, w1, b1]

theorem spoilV_spec {h : Hd} {parts : Va} {S : Sto} {lid : Nat} {row : List AV} {lo hi : Nat} (hlid : S[lid]? = some (.cells 0 row 0)) (hm : RowM S (.cons h parts .nil) row lo hi) (hlo : hi ≤ lid) (hs : (Va.cons h parts .nil).sz ≤ 1050000) :
    ∃ S', CallR ap 32 [.mp lid 0 0] S = some (.ret (.tup []), S') ∧ S'.length = S.length ∧ ∀ j, j ≠ lid → (j < lo ∨ hi ≤ j) → S'[j]? = S[j]? := by
  obtain ⟨S', row', a1, a2, a3, a4, a5⟩ := spoil1_of (spoil_all parts) (pre := []) (post := []) (by simpa using hlid) hm (.inr hlo) hs
  exact ⟨S', a1, a2, a5⟩
end Go.Proofs.YtiiooldjegoikaaDoor
