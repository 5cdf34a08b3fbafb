/- Programs: the law of more. -/
import Derived.Test.YtcgepgahgihojaaDoorVX
import Derived.Test.YtcgepgahgihojaaDoorVC
namespace Go.Proofs.YtcgepgahgihojaaDoor
open Go.St Go.Lib
set_option linter.unusedVariables false
set_option linter.unusedSimpArgs false

/-! ### Grown rows, side by side -/
def BufR (w lo hi : Nat) (st : Sto) (x : AV) (cells : List AV) (len : Nat) : Prop :=
  (x = .nils ∧ cells = [] ∧ len = 0) ∨ ∃ i g, lo ≤ i ∧ i < hi ∧ x = .is cells len (.tip i g w) ∧ st[i]? = some (.tip g) ∧ cells.length = len * w
theorem BufT.toR {w n : Nat} {st : Sto} {x : AV} {cells : List AV} {len : Nat} (h : BufT w n st x cells len) : BufR w n st.length st x cells len := by
  rcases h with h | ⟨i, g, h1, h2, h3, h4⟩
  · exact .inl h
  · exact .inr ⟨i, g, h1, (List.getElem?_eq_some_iff.1 h3).1, h2, h3, h4⟩
theorem BufR.mono {w lo hi : Nat} {st st' : Sto} {x : AV} {cells : List AV} {len : Nat} (h : BufR w lo hi st x cells len) (k : ∀ j, lo ≤ j → j < hi → st'[j]? = st[j]?) : BufR w lo hi st' x cells len := by
  rcases h with h | ⟨i, g, h1, h2, h3, h4, h5⟩
  · exact .inl h
  · exact .inr ⟨i, g, h1, h2, h3, by rw [k i h1 h2]; exact h4, h5⟩
theorem bufR_add {w bytes lo hi : Nat} {st : Sto} {x : AV} {acc new : List AV} {len : Nat} (h : BufR w lo hi st x acc len) (hnew : new.length = w) (hr : room bytes (len + 1) = true) :
    ∃ i g st', appL false false w bytes x (.is new 1 .full) st = some (.is (acc ++ new) (len + 1) (.tip i g w), st') ∧ (acc ++ new).length = (len + 1) * w ∧ st.length ≤ st'.length ∧ ∀ (j : Nat) (o : Ob), (j < lo ∨ hi ≤ j) → st[j]? = some o → st'[j]? = some o := by
  have hy : tailOf false w st (.is new 1 .full) = some (new, 1) := by
    simp only [tailOf, Bool.false_eq_true, if_false, rowOf, Nat.one_mul, hnew, if_true]
    rfl
  unfold appL
  simp only [hy, Option.bind_some]
  rcases h with ⟨rfl, rfl, rfl⟩ | ⟨i, g, h1, h2, rfl, hst, hl⟩
  · rw [Nat.zero_add] at *
    simp only [show ¬ (1 = 0) by omega, if_false, hr, if_true, Bool.false_eq_true, List.nil_append]
    exact ⟨_, _, _, rfl, by rw [hnew, Nat.one_mul], by simp, fun j o _ h => app_get h⟩
  · simp only [hl, true_and, hr, if_true, hst]
    refine ⟨_, _, _, rfl, by rw [List.length_append, hl, hnew, Nat.add_mul, Nat.one_mul], by simp, fun j o hj h => ?_⟩
    rw [List.getElem?_set_ne (by omega)]
    exact h
theorem BufR.is {w lo hi : Nat} {st : Sto} {x : AV} {cells : List AV} {len : Nat} (h : BufR w lo hi st x cells len) : (x = .nils ∧ cells = [] ∧ len = 0) ∨ ∃ i g, x = .is cells len (.tip i g w) ∧ cells.length = len * w := by
  rcases h with h | ⟨i, g, _, _, h3, _, h5⟩
  · exact .inl h
  · exact .inr ⟨i, g, h3, h5⟩
theorem cd_of {cs : List (List (Int × Int))} {ms : List (List AV)} (hl : ms.length = cs.length) (h1 : ∀ x ∈ ms, x.length = 1) (h2 : ∀ j, j < cs.length → CdC (cs.getD j []) (ms.getD j [])) (tok : Tok) : CdV cs (.is ms.flatten cs.length tok) := by
  unfold CdV
  rw [← hl] at h2 ⊢
  exact el_row (by omega) h1 h2

/-- Blocks in an object. -/
theorem bl_of {bs : List BlA} {ms : List (List AV)} (hl : ms.length = bs.length) (h1 : ∀ x ∈ ms, x.length = 3) (h2 : ∀ j, j < bs.length → BlC (bs.getD j default) (ms.getD j [])) {id g P : Nat} {S : Sto} (hid : id < P) (hS : S[id]? = some (.cells g ms.flatten 0)) : BlV P S bs (.ms id g 0 bs.length 3) := by
  refine ⟨rfl, rfl, rfl, fun i hi => ⟨.mp id g (i * 3), ms.getD i [], ?_, rfl, rfl, .inr ⟨id, g, i * 3, _, 0, hid, rfl, hS, fun k c hk => ?_⟩, h2 i hi⟩⟩
  · simp only [ia, if_true, idx_nat hi, Option.bind_some, Nat.zero_add]
  · have hk3 : k < 3 := by
      have := (List.getElem?_eq_some_iff.1 hk).1
      rw [h1 _ (getD_mem (by omega))] at this
      exact this
    have e := flat_at (w := 3) h1 (i := i) (by omega)
    rw [← e, List.getElem?_take_of_lt hk3, List.getElem?_drop] at hk
    exact hk

structure Copied (p : PrA) (n c : Nat) (S : Sto) (tx cd sx bl : AV) (mc mb : List (List AV)) : Prop where
  cle : c ≤ S.length
  htx : TxV p.texts tx
  hcd : BufR 1 n c S cd mc.flatten p.codes.length
  mcl : mc.length = p.codes.length
  mc1 : ∀ x ∈ mc, x.length = 1
  mc2 : ∀ j, j < p.codes.length → CdC (p.codes.getD j []) (mc.getD j [])
  hsx : BufR 4 c S.length S sx (copyRow p.statics) p.statics.len
  hbl : BufM 3 n S bl mb
  mbl : mb.length = p.blocks.length
  mb1 : ∀ x ∈ mb, x.length = 3
  mbx : ∀ x ∈ mb, ExB x
  mb2 : ∀ j, j < p.blocks.length → BlC (p.blocks.getD j default) (mb.getD j [])

theorem copyProgram_spec {p : PrA} {tx cd sx bl : AV} (hR : Read p tx cd sx bl) (st : Sto) :
    ∃ (c : Nat) (tx' cd' sx' bl' : AV) (mc mb : List (List AV)) (S' : Sto), CallR ap 10 [.agg [tx, cd, sx, bl]] st = some (.ret (.agg [tx', cd', sx', bl']), S') ∧ Keeps st.length st S' ∧ Copied p st.length c S' tx' cd' sx' bl' mc mb := by
  have hall : ∀ {a b c d : AV}, a.isCell = true → b.isCell = true → c.isCell = true → d.isCell = true → ([a, b, c, d]).all AV.isCell = true := fun h1 h2 h3 h4 => by
    simp only [List.all_cons, List.all_nil, h1, h2, h3, h4, Bool.and_true]
  obtain ⟨S0, hS0⟩ : ∃ S0, S0 = (st ++ [Ob.cells 0 [tx, cd, sx, bl] 0]) ++ [Ob.cells 0 [.nils, .nils, .nils, .nils] 0] := ⟨_, rfl⟩
  have hl0 : S0.length = st.length + 2 := by rw [hS0]; simp
  have hsm := hR.hsm
  obtain ⟨tx', a1, a2, a3⟩ := copyTexts_spec hR.htx hsm.t S0
  obtain ⟨cd', mc, S1, b1, b2, b3, b4, b5, b6⟩ := copyCodes_spec hR.hcd hsm.c hsm.cs S0
  obtain ⟨sx', S2, c1, c2, c3⟩ := copyTrees_spec hR.hsx.fov hsm.s S1
  obtain ⟨bl', mb, S3, d1, d2, d3, d4, d5, d6⟩ := copyBlocks_spec hR.hbl hsm.b (fun i => ⟨by have := (hsm.o i).1; omega, (hsm.o i).2, hsm.l i⟩) S2
  have l1 := b6.len
  have l2 := c3.len
  have l3 := d6.len
  have g0 : S0[st.length]? = some (.cells 0 [tx, cd, sx, bl] 0) := by rw [hS0]; exact get_mid
  have gz : S0[st.length + 1]? = some (.cells 0 [.nils, .nils, .nils, .nils] 0) := by
    rw [hS0, show st.length + 1 = (st ++ [Ob.cells 0 [tx, cd, sx, bl] 0]).length by simp]
    exact last_get
  have g1 : S1[st.length]? = some (.cells 0 [tx, cd, sx, bl] 0) := by rw [b6.at_ _ (by omega)]; exact g0
  have g2 : S2[st.length]? = some (.cells 0 [tx, cd, sx, bl] 0) := by rw [c3.at_ _ (by omega)]; exact g1
  have gz3 : S3[st.length + 1]? = some (.cells 0 [.nils, .nils, .nils, .nils] 0) := by rw [d6.at_ _ (by omega), c3.at_ _ (by omega), b6.at_ _ (by omega)]; exact gz
  have kcd : cd'.isCell = true ∧ cd'.cells = [cd'] := by rcases b2 with ⟨rfl, _⟩ | ⟨_, _, _, rfl, _⟩ <;> exact ⟨rfl, rfl⟩
  have ksx : sx'.isCell = true ∧ sx'.cells = [sx'] := by rcases c2 with ⟨rfl, _⟩ | ⟨_, _, _, rfl, _⟩ <;> exact ⟨rfl, rfl⟩
  have kbl : bl'.isCell = true ∧ bl'.cells = [bl'] := by rcases d2 with ⟨rfl, _⟩ | ⟨_, _, _, rfl, _⟩ <;> exact ⟨rfl, rfl⟩
  have kall := hall a2.2.1 kcd.1 ksx.1 kbl.1
  have hag : (aggA (fillA (fun i => ([(0, 1), (1, 1), (2, 1), (3, 1)] : List (Nat × Nat))[i]?) [.nils, .nils, .nils, .nils] [(0, tx'), (1, cd'), (2, sx'), (3, bl')])) = some (.agg [tx', cd', sx', bl']) := by
    have h1 : ([tx']).all AV.isCell = true := by simp [a2.2.1]
    have h2 : ([cd']).all AV.isCell = true := by simp [kcd.1]
    have h3 : ([sx']).all AV.isCell = true := by simp [ksx.1]
    have h4 : ([bl']).all AV.isCell = true := by simp [kbl.1]
    simp only [fillA, List.getElem?_cons_zero, List.getElem?_cons_succ, isRowB_cells a2.2.2.1, kcd.2, ksx.2, kbl.2, h1, h2, h3, h4]
    rfl
  obtain ⟨S4, hS4⟩ : ∃ S4, S4 = S3.set (st.length + 1) (.cells 0 [tx', cd', sx', bl'] 0) := ⟨_, rfl⟩
  have s4 : sto 4 S3 (.mp (st.length + 1) 0 0) (.agg [tx', cd', sx', bl']) = some S4 := by rw [sto_all gz3 kall (n := 4) rfl rfl, hS4]
  have hl4 : S4.length = S3.length := by rw [hS4]; simp
  have r4 : ld true 4 S4 (.mp (st.length + 1) 0 0) = some (.agg [tx', cd', sx', bl']) := m_all (g := 0) (fz := 0) (by rw [hS4]; exact List.getElem?_set_self (by omega)) rfl
  have out : ∀ j, st.length + 1 < j → S4[j]? = S3[j]? := fun j hj => by rw [hS4, List.getElem?_set_ne (by omega)]
  have hb : stencillaw0_CopyProgram.b (.agg [tx, cd, sx, bl]) st = some ⟨.ret (.agg [tx', cd', sx', bl']), none, S4⟩ := by
    have e1 : (st ++ [Ob.cells 0 [tx, cd, sx, bl] 0]).length = st.length + 1 := by simp
    rw [stencillaw0_CopyProgram.b_eq, agg_cells, e1, ← hS0]
    refine (it (hall hR.htx.2.1 hR.hcd.2.1 hR.hcell hR.hbl.2.1)).trans ?_
    refine (br (m_get (n := 0) g0 rfl)).trans ?_
    refine (cr a1).trans ?_
    refine (br (m_get (n := 1) g0 rfl)).trans ?_
    refine (br (m_get (n := 1) g0 rfl)).trans ?_
    refine (it rfl).trans ?_
    refine (cr b1).trans ?_
    refine (br (m_get (n := 2) g1 rfl)).trans ?_
    refine (br (m_get (n := 2) g0 rfl)).trans ?_
    refine (it rfl).trans ?_
    refine (br (m_get (n := 2) g0 rfl)).trans ?_
    refine (it rfl).trans ?_
    refine (cr c1).trans ?_
    refine (br (m_get (n := 3) g2 rfl)).trans ?_
    refine (br (m_get (n := 3) g1 rfl)).trans ?_
    refine (it rfl).trans ?_
    refine (br (m_get (n := 3) g0 rfl)).trans ?_
    refine (it rfl).trans ?_
    refine (br (m_get (n := 3) g0 rfl)).trans ?_
    refine (it rfl).trans ?_
    refine (cr d1).trans ?_
    refine (br hag).trans ?_
    refine (br s4).trans ?_
    exact br r4
  refine ⟨S1.length, tx', cd', sx', bl', mc, mb, S4, ?_, ?_, ?_⟩
  · rw [stencillaw0_CopyProgram.call, hb]
    rfl
  · refine ⟨by omega, fun i hi => ?_⟩
    rw [hS4, List.getElem?_set_ne (by omega), d6.at_ _ (by omega), c3.at_ _ (by omega), b6.at_ _ (by omega), hS0, List.append_assoc, List.getElem?_append_left hi]
  · refine ⟨by omega, a2, ?_, b3, fun x hx => (b5 x hx).1, b4, ?_, ?_, d3, fun x hx => (d5 x hx).1, fun x hx => (d5 x hx).2.2, d4⟩
    · have := (b2.toR).mono (st' := S4) fun j h1 h2 => by rw [out j (by omega), d6.at_ _ (by omega), c3.at_ _ (by omega)]
      rcases this with h | ⟨i, g, h1, h2, h3⟩
      · exact .inl h
      · exact .inr ⟨i, g, by omega, h2, h3⟩
    · have := (c2.toR).mono (st' := S4) fun j h1 h2 => by rw [out j (by omega), d6.at_ _ (by omega)]
      rcases this with h | ⟨i, g, h1, h2, h3⟩
      · exact .inl h
      · exact .inr ⟨i, g, h1, by omega, h3⟩
    · rcases d2 with h | ⟨id, g, h1, h2, h3⟩
      · exact .inl h
      · exact .inr ⟨id, g, by omega, h2, by rw [out id (by omega)]; exact h3⟩

theorem gd_set {α : Type} {l : List α} {i : Nat} {x d : α} (h : i < l.length) : (l.set i x).getD i d = x := by
  rw [List.getD_eq_getElem?_getD, List.getElem?_set_self h]
  rfl
theorem gd_set_ne {α : Type} {l : List α} {i j : Nat} {x d : α} (h : j ≠ i) : (l.set i x).getD j d = l.getD j d := by
  rw [List.getD_eq_getElem?_getD, List.getElem?_set_ne (Ne.symm h), ← List.getD_eq_getElem?_getD]
/-! ### No update -/
theorem flat_set {w : Nat} : ∀ {ms : List (List AV)} {i k : Nat} {v : AV}, (∀ m ∈ ms, m.length = w) → i < ms.length → k < w → ms.flatten.set (i * w + k) v = (ms.set i ((ms.getD i []).set k v)).flatten := by
  intro ms
  induction ms with
  | nil => intro i k v _ h; simp at h
  | cons m r ih =>
    intro i k v h hi hk
    have hm := h m (by simp)
    cases i with
    | zero =>
      rw [Nat.zero_mul, Nat.zero_add, List.flatten_cons, List.set_append_left _ _ (by omega)]
      rfl
    | succ i =>
      rw [List.flatten_cons, List.set_append_right _ _ (by rw [hm, Nat.succ_mul]; omega), hm, show (i + 1) * w + k - w = i * w + k by rw [Nat.succ_mul]; omega, ih (fun x hx => h x (by simp [hx])) (by simpa using hi) hk]
      rfl
theorem noUpd_loop {p : PrA} {Q id g : Nat} {cs : List AV} (hb4 : cs[3]? = some (.ms id g 0 p.blocks.length 3)) (hidQ : id ≠ Q) (hpb : p.blocks.length ≤ 1050000) : ∀ (m i : Nat) (ms : List (List AV)) (T : Sto), i + m = p.blocks.length → ms.length = p.blocks.length → (∀ x ∈ ms, x.length = 3) → T[Q]? = some (.cells 0 cs 0) → T[id]? = some (.cells g ms.flatten 0) → (∀ j, j < p.blocks.length → BlC (if j < i then noUpd (p.blocks.getD j default) else p.blocks.getD j default) (ms.getD j [])) →
    ∃ (ms' : List (List AV)) (T' : Sto), stencillaw22_VerifyMore.p111111110100 0 Q ((i : Nat) : Int) T = stencillaw22_VerifyMore.p111111110100 0 Q ((p.blocks.length : Nat) : Int) T' ∧ ms'.length = p.blocks.length ∧ (∀ x ∈ ms', x.length = 3) ∧ T'[id]? = some (.cells g ms'.flatten 0) ∧ (∀ j, j < p.blocks.length → BlC (noUpd (p.blocks.getD j default)) (ms'.getD j [])) ∧ T'.length = T.length ∧ ∀ j, j ≠ id → T'[j]? = T[j]? := by
  intro m
  induction m with
  | zero =>
    intro i ms T him hml h3 hQ hid hms
    have hi : i = p.blocks.length := by omega
    subst hi
    exact ⟨ms, T, rfl, hml, h3, hid, fun j hj => by have := hms j hj; rwa [if_pos hj] at this, rfl, fun _ _ => rfl⟩
  | succ m ih =>
    intro i ms T him hml h3 hQ hid hms
    have hi : i < p.blocks.length := by omega
    have w1 : IntKind.wrap .i64 (((i : Nat) : Int) + 1) = ((i + 1 : Nat) : Int) := w64 _ (by omega) (by omega)
    have hidl := (List.getElem?_eq_some_iff.1 hid).1
    have hfl := flat_len h3
    have hset := flat_set (v := .nils) h3 (i := i) (k := 2) (by omega) (by omega)
    have hst : sto 1 T (.mp id g (i * 3 + 2)) .nils = some (T.set id (.cells g (ms.set i ((ms.getD i []).set 2 .nils)).flatten 0)) := by
      rw [sto_atG hid (by rw [hfl]; omega) rfl rfl, hset]
    have hr3 : ld false 1 T (.mp Q 0 3) = some (.ms id g 0 p.blocks.length 3) := m_get hQ hb4
    obtain ⟨ms', T', e1, e2, e3, e4, e5, e6, e7⟩ := ih (i + 1) (ms.set i ((ms.getD i []).set 2 .nils)) (T.set id (.cells g (ms.set i ((ms.getD i []).set 2 .nils)).flatten 0)) (by omega) (by rw [List.length_set]; exact hml) (fun x hx => by
      rcases List.mem_or_eq_of_mem_set hx with hx | rfl
      · exact h3 x hx
      · rw [List.length_set]; exact h3 _ (getD_mem (by omega))) (by rw [List.getElem?_set_ne hidQ]; exact hQ) (List.getElem?_set_self hidl) (fun j hj => by
      by_cases hji : j = i
      · subst hji
        rw [if_pos (by omega), gd_set (by omega)]
        have := hms j hj
        rw [if_neg (by omega)] at this
        obtain ⟨ov, uv, e, ho, hu⟩ := this
        exact ⟨ov, .nils, by rw [e]; rfl, ho, el_nil⟩
      · have := hms j hj
        rw [gd_set_ne hji]
        by_cases hj2 : j < i
        · rw [if_pos hj2] at this; rw [if_pos (by omega)]; exact this
        · rw [if_neg hj2] at this; rw [if_neg (by omega)]; exact this)
    refine ⟨ms', T', ?_, e2, e3, e4, e5, by rw [e6, List.length_set], fun j hj => by rw [e7 j hj, List.getElem?_set_ne (Ne.symm hj)]⟩
    rw [← e1, stencillaw22_VerifyMore.p111111110100_eq]
    refine (br hr3).trans ?_
    refine (br (show lenL (.ms id g 0 p.blocks.length 3) = some p.blocks.length from rfl)).trans ?_
    refine (bt (dtrue (by omega))).trans ?_
    refine (br hr3).trans ?_
    refine (br (show ia 3 (.ms id g 0 p.blocks.length 3) (.int .i64 ((i : Nat) : Int)) = some (.mp id g (i * 3)) by simp only [ia, if_true, idx_nat hi, Option.bind_some, Nat.zero_add])).trans ?_
    refine (br (show fa 2 1 (.mp id g (i * 3)) = some (.mp id g (i * 3 + 2)) from rfl)).trans ?_
    refine (br hst).trans ?_
    rw [w1]

theorem row_app : ∀ (t : Fo) {u : Fo} {r : List AV}, Row u r → Row (foApp t u) (copyRow t ++ r) := by
  intro t
  induction t with
  | nil => intro u r h; exact h
  | cons tag text ats kids rest ihk ihr =>
    intro u r h
    refine ⟨_, _, _, rfl, copyA_att _, ?_, ihr h⟩
    by_cases hk : kids.len = 0
    · exact .inl ⟨hk, if_pos hk⟩
    · refine .inr ⟨copyRow kids, .no, if_neg hk, ?_⟩
      have := copyRow_row kids []
      rwa [List.append_nil] at this

/-! ### The law -/
theorem get_or {α : Type} {l : List α} {d : α} {P : α → Prop} (h : ∀ i, i < l.length → P (l.getD i d)) (hd : P d) : ∀ i, P (l.getD i d) := fun i => by
  by_cases hi : i < l.length
  · exact h i hi
  · rw [List.getD_eq_getElem?_getD, List.getElem?_eq_none (by omega)]
    exact hd
theorem small_Q {p : PrA} (hs : Small p) (hz : p.statics.sz ≤ 1048576) (hc : p.codes.length ≤ 8192) : Small (moreQ p) := by
  have hmap : ∀ i, (moreQ p).blocks.getD i default = if i < p.blocks.length then noUpd (p.blocks.getD i default) else default := fun i => by
    show (p.blocks.map noUpd).getD i default = _
    by_cases hi : i < p.blocks.length
    · rw [if_pos hi, List.getD_eq_getElem?_getD, List.getElem?_map, List.getElem?_eq_getElem hi, List.getD_eq_getElem?_getD, List.getElem?_eq_getElem hi]
      rfl
    · rw [if_neg hi, List.getD_eq_getElem?_getD, List.getElem?_eq_none (by simp; omega)]
      rfl
  refine ⟨hs.t, hs.ts, by show (p.codes ++ [[(1, 0)]]).length ≤ _; simp; omega, fun i => ?_, ?_, by show (p.blocks.map noUpd).length ≤ _; simp; exact hs.b, fun i => ?_, fun i j => ?_⟩
  · show ((p.codes ++ [[(1, 0)]]).getD i []).length ≤ _
    by_cases hi : i < p.codes.length
    · rw [gd_app hi]; exact hs.cs i
    · by_cases hi2 : i = p.codes.length
      · subst hi2; rw [gd_last]; simp
      · rw [List.getD_eq_getElem?_getD, List.getElem?_eq_none (by simp; omega)]; simp
  · show (foApp p.statics oneP).sz ≤ _
    rw [foApp_sz]
    have : oneP.sz = 5 := rfl
    omega
  · rw [hmap]
    split
    · exact ⟨(hs.o i).1, Nat.zero_le _⟩
    · exact ⟨Nat.zero_le _, Nat.zero_le _⟩
  · rw [hmap]
    split
    · exact hs.l i j
    · exact Nat.zero_le _
theorem small_R {p : PrA} (hs : Small p) (hb : p.blocks.length ≤ 8192) : Small (moreR p) := by
  have hget : ∀ i, (moreR p).blocks.getD i default = if i < p.blocks.length then p.blocks.getD i default else if i = p.blocks.length then eB else default := fun i => by
    show (p.blocks ++ [eB]).getD i default = _
    by_cases hi : i < p.blocks.length
    · rw [if_pos hi, gd_app hi]
    · rw [if_neg hi]
      by_cases hi2 : i = p.blocks.length
      · subst hi2; rw [if_pos rfl, gd_last]
      · rw [if_neg hi2, List.getD_eq_getElem?_getD, List.getElem?_eq_none (by simp; omega)]; rfl
  refine ⟨hs.t, hs.ts, hs.c, hs.cs, hs.s, by show (p.blocks ++ [eB]).length ≤ _; simp; omega, fun i => ?_, fun i j => ?_⟩
  · rw [hget]
    split
    · exact hs.o i
    · split <;> exact ⟨Nat.zero_le _, Nat.zero_le _⟩
  · rw [hget]
    split
    · exact hs.l i j
    · split <;> exact Nat.zero_le _
theorem codes_le {p : PrA} (h : (verA p).2.2 = 0) : p.codes.length ≤ 8192 := by
  obtain ⟨v1, _⟩ := ver_ok h
  obtain ⟨_, l2, _⟩ := lists_ok.1 v1
  by_cases hc : p.codes.length ≤ 8192
  · exact hc
  · have := l2 8192 (by omega)
    unfold codeBad at this
    rw [dtrue (show 8192 ≤ 8192 by omega)] at this
    cases this

def nB : List AV := [.int .i64 1, .nils, .nils]
theorem second_half {p : PrA} {tx cd sx bl : AV} (hR : Read p tx cd sx bl) (he : (verA p).2.2 = 0) {T : Sto} (hT : T[0]? = some (.cells 0 [tx, cd, sx, bl] 0)) : ∃ S', stencillaw22_VerifyMore.p111111111101 0 false T = some ⟨.ret (.bool true), none, S'⟩ := by
  obtain ⟨v1, v2, v3, v4⟩ := ver_ok he
  have hT0 := (List.getElem?_eq_some_iff.1 hT).1
  obtain ⟨c, tx', cd', sx', bl', mc, mb, U, u1, u2, hC⟩ := copyProgram_spec hR T
  have hU0 : U[0]? = some (.cells 0 [tx, cd, sx, bl] 0) := by rw [u2.at_ 0 hT0]; exact hT
  obtain ⟨id, g, hid, rfl, hidS⟩ : ∃ id g, T.length ≤ id ∧ bl' = .ms id g 0 mb.length 3 ∧ U[id]? = some (.cells g mb.flatten 0) := by
    rcases hC.hbl with ⟨_, h⟩ | h
    · exfalso
      have := hC.mbl
      rw [h] at this
      simp at this
      omega
    · exact h
  have hidl := (List.getElem?_eq_some_iff.1 hidS).1
  obtain ⟨U1, hU1⟩ : ∃ U1, U1 = U ++ [Ob.cells 0 [tx', cd', sx', .ms id g 0 mb.length 3] 0] := ⟨_, rfl⟩
  have kcd := hC.hcd.is
  have ksx := hC.hsx.is
  have kc : cd'.isCell = true := by rcases kcd with ⟨rfl, _⟩ | ⟨_, _, rfl, _⟩ <;> rfl
  have ks : sx'.isCell = true := by rcases ksx with ⟨rfl, _⟩ | ⟨_, _, rfl, _⟩ <;> rfl
  have hall : ∀ x : AV, x.isCell = true → ([tx', cd', sx', x]).all AV.isCell = true := fun x hx => by
    simp only [List.all_cons, List.all_nil, hC.htx.2.1, kc, ks, hx, Bool.and_true]
  have s1 : sto 4 (U ++ [Ob.cells 0 [.nils, .nils, .nils, .nils] 0]) (.mp U.length 0 0) (.agg [tx', cd', sx', .ms id g 0 mb.length 3]) = some U1 := by rw [hU1]; exact m_new (cs := [.nils, .nils, .nils, .nils]) (cs' := [tx', cd', sx', .ms id g 0 mb.length 3]) (hall _ rfl) rfl rfl
  have q1 : U1[U.length]? = some (.cells 0 [tx', cd', sx', .ms id g 0 mb.length 3] 0) := by rw [hU1]; simp
  have i1 : U1[id]? = some (.cells g mb.flatten 0) := by rw [hU1]; exact app_get hidS
  have hll1 : U1.length = U.length + 1 := by rw [hU1]; simp
  have hfl := flat_len hC.mb1
  have htail : tailOf false 3 U1 (.is nB 1 .full) = some (nB, 1) := rfl
  have hroom : room 56 (mb.length + 1) = true := by have := hC.mbl; simp [room]; omega
  have hle : 0 + mb.length * 3 ≤ mb.flatten.length := by omega
  obtain ⟨U2, hU2⟩ : ∃ U2, U2 = U1.set id (.cells (g + 1) (mb ++ [nB]).flatten 0) := ⟨_, rfl⟩
  have happ : appL false false 3 56 (.ms id g 0 mb.length 3) (.is nB 1 .full) U1 = some (.ms id (g + 1) 0 (mb.length + 1) 3, U2) := by
    have ht : mb.flatten.take (mb.length * 3) = mb.flatten := by rw [← hfl, List.take_length]
    simp only [appL, htail, Option.bind_some, hroom, true_and, if_true, i1, hle, and_self, List.drop_zero, ht, hU2]
    simp
  have q2 : U2[U.length]? = some (.cells 0 [tx', cd', sx', .ms id g 0 mb.length 3] 0) := by rw [hU2, List.getElem?_set_ne (by omega)]; exact q1
  have i2 : U2[id]? = some (.cells (g + 1) (mb ++ [nB]).flatten 0) := by rw [hU2]; exact List.getElem?_set_self (by omega)
  have hll2 : U2.length = U1.length := by rw [hU2]; simp
  obtain ⟨U3, hU3⟩ : ∃ U3, U3 = U2.set U.length (.cells 0 [tx', cd', sx', .ms id (g + 1) 0 (mb.length + 1) 3] 0) := ⟨_, rfl⟩
  have s3 : sto 1 U2 (.mp U.length 0 3) (.ms id (g + 1) 0 (mb.length + 1) 3) = some U3 := by
    rw [sto_at q2 (by show 3 < 4; omega) rfl rfl, hU3]
    rfl
  have q3 : U3[U.length]? = some (.cells 0 [tx', cd', sx', .ms id (g + 1) 0 (mb.length + 1) 3] 0) := by rw [hU3]; exact List.getElem?_set_self (by omega)
  have i3 : U3[id]? = some (.cells (g + 1) (mb ++ [nB]).flatten 0) := by rw [hU3, List.getElem?_set_ne (by omega)]; exact i2
  have z3 : U3[0]? = some (.cells 0 [tx, cd, sx, bl] 0) := by
    rw [hU3, List.getElem?_set_ne (by omega), hU2, List.getElem?_set_ne (by omega), hU1]
    exact app_get hU0
  have hll3 : U3.length = U2.length := by rw [hU3]; simp
  have hmbl := hC.mbl
  have hrl : (moreR p).blocks.length = mb.length + 1 := by show (p.blocks ++ [eB]).length = _; simp [hmbl]
  have hB : BlV U3.length U3 (moreR p).blocks (.ms id (g + 1) 0 (mb.length + 1) 3) := by
    have := bl_of (bs := (moreR p).blocks) (ms := mb ++ [nB]) (by rw [hrl]; simp) (fun x hx => by
      rcases List.mem_append.1 hx with hx | hx
      · exact hC.mb1 x hx
      · simp at hx; subst hx; rfl) (fun j hj => by
      rw [hrl] at hj
      by_cases hj2 : j < mb.length
      · rw [gd_app hj2]
        show BlC ((p.blocks ++ [eB]).getD j default) _
        rw [gd_app (by omega)]
        exact hC.mb2 j (by omega)
      · have hj3 : j = mb.length := by omega
        rw [hj3, gd_last]
        show BlC ((p.blocks ++ [eB]).getD mb.length default) _
        rw [hmbl, gd_last]
        exact ⟨.nils, .nils, rfl, el_nil, el_nil⟩) (id := id) (g := g + 1) (P := U3.length) (S := U3) (by omega) i3
    rw [hrl] at this
    exact this
  have hCd : CdV p.codes cd' := by
    rcases kcd with ⟨rfl, _, h⟩ | ⟨i, g, rfl, _⟩
    · unfold CdV; rw [h]; exact el_nil
    · exact cd_of hC.mcl hC.mc1 hC.mc2 _
  have hSx : FoM p.statics sx' := by
    rcases ksx with ⟨rfl, _, h⟩ | ⟨i, g, rfl, h⟩
    · exact .inl ⟨h, rfl⟩
    · refine .inr ⟨_, _, rfl, h, ?_⟩
      have := copyRow_row p.statics []
      rwa [List.append_nil] at this
  have hno : ∀ row n m, sx' = .is row n (.cut m) → n ≤ m := fun row n m h => by
    rcases ksx with ⟨rfl, _, _⟩ | ⟨_, _, rfl, _⟩ <;> cases h
  have hv := verify_spec (small_R hR.hsm v3) hno (st := U3) (p := moreR p) hC.htx hCd hSx hB ks
  rw [more_block he] at hv
  have hag : (aggA (fillA (fun i => ([(0, 1), (1, 1), (2, 1)] : List (Nat × Nat))[i]?) [.int .i64 0, .nils, .nils] [(0, (.int .i64 1))])) = some (.agg nB) := rfl
  have hli : (litS false 1 3 (fillA (fun i => some (i * 3, 3)) [.int .i64 0, .nils, .nils] [(0, .agg nB)]) U1) = some (.is nB 1 .full, U1) := rfl
  refine ⟨U3, ?_⟩
  rw [stencillaw22_VerifyMore.p111111111101_eq]
  refine (bf rfl).trans ?_
  refine (br (m_all hT rfl)).trans ?_
  refine (cr u1).trans ?_
  refine (br s1).trans ?_
  refine (br (m_get (n := 3) q1 rfl)).trans ?_
  refine (br hag).trans ?_
  refine (br hli).trans ?_
  refine (br happ).trans ?_
  refine (br s3).trans ?_
  refine (br (m_all q3 rfl)).trans ?_
  refine (cr hv).trans ?_
  refine (br (x0 _ _)).trans ?_
  refine (br (x1 _ _ _)).trans ?_
  refine (br (x2 _ _ _ _)).trans ?_
  refine (br (m_get (n := 3) q3 rfl)).trans ?_
  refine (br (show lenL (.ms id (g + 1) 0 (mb.length + 1) 3) = some (mb.length + 1) from rfl)).trans ?_
  by_cases hbig : 8192 < p.blocks.length + 1
  · rw [if_pos hbig]
    refine (bt (dtrue (by omega))).trans ?_
    refine (cr (num_spec _ U3)).trans ?_
    refine (br (aI _)).trans ?_
    refine (bt rfl).trans ?_
    exact br (aI _)
  · rw [if_neg hbig]
    refine (bf (dfalse (by omega))).trans ?_
    refine (cr (num_spec _ U3)).trans ?_
    refine (br (aI _)).trans ?_
    refine (bt rfl).trans ?_
    refine (br (m_get (n := 3) z3 rfl)).trans ?_
    refine (br hR.hbl.1).trans ?_
    refine (br (aI _)).trans ?_
    refine (bt (dtrue rfl)).trans ?_
    exact br (aI _)

theorem hC_le {p : PrA} {n c : Nat} {U : Sto} {tx cd sx bl : AV} {mc mb : List (List AV)} (h : Copied p n c U tx cd sx bl mc mb) : c ≤ U.length := h.cle
/-- What is no tip of the row stays. -/
theorem keep_nils {w bytes : Nat} {st st' : Sto} {new : List AV} {x : AV} (h : appL false false w bytes .nils (.is new 1 .full) st = some (x, st')) {j : Nat} {o : Ob} (hj : st[j]? = some o) : st'[j]? = some o := by
  unfold appL at h
  cases ht : tailOf false w st (.is new 1 .full) with
  | none => rw [ht] at h; cases h
  | some r =>
    obtain ⟨r1, r2⟩ := r
    rw [ht] at h
    simp only [Option.bind_some] at h
    split at h
    · cases h; exact hj
    · split at h
      · simp only [Bool.false_eq_true, if_false, Option.some.injEq, Prod.mk.injEq] at h
        rw [← h.2]
        exact app_get hj
      · cases h
theorem keep_tip {w bytes i g len : Nat} {cells : List AV} {st st' : Sto} {new : List AV} {x : AV} (hi : st[i]? = some (.tip g)) (h : appL false false w bytes (.is cells len (.tip i g w)) (.is new 1 .full) st = some (x, st')) {j : Nat} {o : Ob} (hji : j ≠ i) (hj : st[j]? = some o) : st'[j]? = some o := by
  unfold appL at h
  cases ht : tailOf false w st (.is new 1 .full) with
  | none => rw [ht] at h; cases h
  | some r =>
    obtain ⟨r1, r2⟩ := r
    rw [ht] at h
    simp only [Option.bind_some] at h
    split at h
    · simp only [hi, if_true, Option.some.injEq, Prod.mk.injEq] at h
      rw [← h.2, List.getElem?_set_ne (Ne.symm hji)]
      exact hj
    · cases h
theorem first_half {p : PrA} {tx cd sx bl : AV} (hR : Read p tx cd sx bl) (he : (verA p).2.2 = 0) {c : Nat} {tx' cd' sx' bl' : AV} {mc mb : List (List AV)} {U : Sto} (hC : Copied p 1 c U tx' cd' sx' bl' mc mb) (hU0 : U[0]? = some (.cells 0 [tx, cd, sx, bl] 0)) (T1 : Sto) (hT1 : T1 = U ++ [Ob.cells 0 [tx', cd', sx', bl'] 0]) :
    ∃ S', ((ld false 1 T1 (.mp U.length 0 1)).bind fun v26 => (aggA (fillA (fun i => ([(0, 1), (1, 1)] : List (Nat × Nat))[i]?) [.int .i64 0, .int .i64 0] [(0, (.int .i64 1))])).bind fun v27 => (litS false 1 2 (fillA (fun i => some (i * 2, 2)) [.int .i64 0, .int .i64 0] [(0, v27)]) T1).bind fun x28 => (litS false 1 1 (fillA (fun i => some (i * 1, 1)) [.nils] [(0, x28.1)]) x28.2).bind fun x29 => (appL false false 1 24 v26 x29.1 x29.2).bind fun x30 => (sto 1 x30.2 (.mp U.length 0 1) x30.1).bind fun s31 => (ld false 1 s31 (.mp U.length 0 2)).bind fun v32 => (aggA (fillA (fun i => ([(0, 1), (1, 1), (2, 1), (3, 1)] : List (Nat × Nat))[i]?) [.str ⟨#[]⟩, .str ⟨#[]⟩, .nils, .nils] [(0, (.str ⟨#[112]⟩))])).bind fun v33 => (litS false 1 4 (fillA (fun i => some (i * 4, 4)) [.str ⟨#[]⟩, .str ⟨#[]⟩, .nils, .nils] [(0, v33)]) s31).bind fun x34 => (appL false false 4 80 v32 x34.1 x34.2).bind fun x35 => (sto 1 x35.2 (.mp U.length 0 2) x35.1).bind fun s36 => stencillaw22_VerifyMore.p111111110100 0 U.length 0 s36 : Option Res) = some ⟨.ret (.bool true), none, S'⟩ := by
  obtain ⟨v1, v2, v3, v4⟩ := ver_ok he
  have hcl := codes_le he
  have hsl := len_sz p.statics
  have hsz := hR.hsz
  have hmbl := hC.mbl
  obtain ⟨id, g, hid, rfl, hidS⟩ : ∃ id g, 1 ≤ id ∧ bl' = .ms id g 0 mb.length 3 ∧ U[id]? = some (.cells g mb.flatten 0) := by
    rcases hC.hbl with ⟨_, h⟩ | h
    · exfalso
      rw [h] at hmbl
      simp at hmbl
      omega
    · exact h
  have hidl := (List.getElem?_eq_some_iff.1 hidS).1
  have hU0l := (List.getElem?_eq_some_iff.1 hU0).1
  have hl1 : T1.length = U.length + 1 := by rw [hT1]; simp
  have q1 : T1[U.length]? = some (.cells 0 [tx', cd', sx', .ms id g 0 mb.length 3] 0) := by rw [hT1]; simp
  have up1 : ∀ (j : Nat) (o : Ob), U[j]? = some o → T1[j]? = some o := by rw [hT1]; exact ap_get
  have hcle : c ≤ U.length := hC_le hC
  -- the codes
  obtain ⟨w, hw⟩ : ∃ w : AV, w = .is [.int .i64 1, .int .i64 0] 1 .full := ⟨_, rfl⟩
  have hr1 : BufR 1 1 c T1 cd' mc.flatten p.codes.length := hC.hcd.mono fun j h1 h2 => by rw [hT1, List.getElem?_append_left (by omega)]
  obtain ⟨i2, g2, T2, a1, a2, a3, a4⟩ := bufR_add (new := [w]) hr1 rfl (bytes := 24) (by simp [room]; omega)
  have q2 : T2[U.length]? = some (.cells 0 [tx', cd', sx', .ms id g 0 mb.length 3] 0) := a4 _ _ (.inr hcle) q1
  obtain ⟨cd2, hcd2⟩ : ∃ v : AV, v = .is (mc.flatten ++ [w]) (p.codes.length + 1) (.tip i2 g2 1) := ⟨_, rfl⟩
  rw [← hcd2] at a1
  obtain ⟨T3, hT3⟩ : ∃ T3, T3 = T2.set U.length (.cells 0 [tx', cd2, sx', .ms id g 0 mb.length 3] 0) := ⟨_, rfl⟩
  have hq2l := (List.getElem?_eq_some_iff.1 q2).1
  have s3 : sto 1 T2 (.mp U.length 0 1) cd2 = some T3 := by
    rw [sto_at q2 (by show 1 < 4; omega) (by rw [hcd2]; rfl) (by rw [hcd2]; rfl), hT3]
    rfl
  have q3 : T3[U.length]? = some (.cells 0 [tx', cd2, sx', .ms id g 0 mb.length 3] 0) := by rw [hT3]; exact List.getElem?_set_self hq2l
  have hl3 : T3.length = T2.length := by rw [hT3]; simp
  -- the statics
  obtain ⟨new, hnew⟩ : ∃ new : List AV, new = [.str ⟨#[112]⟩, .str ⟨#[]⟩, .nils, .nils] := ⟨_, rfl⟩
  have hr3 : BufR 4 c U.length T3 sx' (copyRow p.statics) p.statics.len := by
    rcases hC.hsx with h | ⟨i, g', h1, h2, h3, h4, h5⟩
    · exact .inl h
    · exact .inr ⟨i, g', h1, h2, h3, by rw [hT3, List.getElem?_set_ne (by omega)]; exact a4 _ _ (.inr h1) (up1 _ _ h4), h5⟩
  obtain ⟨i4, g4, T4, b1, b2, b3, b4⟩ := bufR_add (new := new) hr3 (by rw [hnew]; rfl) (bytes := 80) (by simp [room]; omega)
  have q4 : T4[U.length]? = some (.cells 0 [tx', cd2, sx', .ms id g 0 mb.length 3] 0) := b4 _ _ (.inr (Nat.le_refl _)) q3
  obtain ⟨sx2, hsx2⟩ : ∃ v : AV, v = .is (copyRow p.statics ++ new) (p.statics.len + 1) (.tip i4 g4 4) := ⟨_, rfl⟩
  rw [← hsx2] at b1
  obtain ⟨T5, hT5⟩ : ∃ T5, T5 = T4.set U.length (.cells 0 [tx', cd2, sx2, .ms id g 0 mb.length 3] 0) := ⟨_, rfl⟩
  have hq4l := (List.getElem?_eq_some_iff.1 q4).1
  have s5 : sto 1 T4 (.mp U.length 0 2) sx2 = some T5 := by
    rw [sto_at q4 (by show 2 < 4; omega) (by rw [hsx2]; rfl) (by rw [hsx2]; rfl), hT5]
    rfl
  have q5 : T5[U.length]? = some (.cells 0 [tx', cd2, sx2, .ms id g 0 mb.length 3] 0) := by rw [hT5]; exact List.getElem?_set_self hq4l
  have hl5 : T5.length = T4.length := by rw [hT5]; simp
  -- others stay: an object that is no tip
  have stay : ∀ (j : Nat) (cs : List AV) (gg : Nat), U[j]? = some (.cells gg cs 0) → T5[j]? = some (.cells gg cs 0) := by
    intro j cs gg hj
    have hjl := (List.getElem?_eq_some_iff.1 hj).1
    have e1 := up1 _ _ hj
    have e2 : T2[j]? = some (.cells gg cs 0) := by
      rcases hr1 with ⟨rfl, h1, h2⟩ | ⟨i, g', h1, h2, rfl, h4, h5⟩
      · exact keep_nils a1 e1
      · by_cases hji : j = i
        · rw [hji, h4] at e1; cases e1
        · exact keep_tip h4 a1 hji e1
    have e3 : T3[j]? = some (.cells gg cs 0) := by rw [hT3, List.getElem?_set_ne (by omega)]; exact e2
    have e4 : T4[j]? = some (.cells gg cs 0) := by
      rcases hr3 with ⟨rfl, h1, h2⟩ | ⟨i, g', h1, h2, rfl, h4, h5⟩
      · exact keep_nils b1 e3
      · by_cases hji : j = i
        · rw [hji, h4] at e3; cases e3
        · exact keep_tip h4 b1 hji e3
    rw [hT5, List.getElem?_set_ne (by omega)]
    exact e4
  have i5 := stay id _ _ hidS
  have z5 := stay 0 _ _ hU0
  rw [hmbl] at q5
  obtain ⟨ms, T, m1, m2, m3, m4, m5, m6, m7⟩ := noUpd_loop (p := p) (Q := U.length) (id := id) (g := g) (cs := [tx', cd2, sx2, .ms id g 0 p.blocks.length 3]) rfl (by omega) (by omega) p.blocks.length 0 mb T5 (by omega) hmbl hC.mb1 q5 i5 (fun j hj => by rw [if_neg (by omega)]; exact hC.mb2 j hj)
  have qT : T[U.length]? = some (.cells 0 [tx', cd2, sx2, .ms id g 0 p.blocks.length 3] 0) := by rw [m7 _ (by omega)]; exact q5
  have zT : T[0]? = some (.cells 0 [tx, cd, sx, bl] 0) := by rw [m7 _ (by omega)]; exact z5
  -- the verifier
  have hqb : (moreQ p).blocks.length = p.blocks.length := by simp [moreQ]
  have hB : BlV T.length T (moreQ p).blocks (.ms id g 0 p.blocks.length 3) := by
    have := bl_of (bs := (moreQ p).blocks) (ms := ms) (by rw [hqb]; exact m2) m3 (fun j hj => by
      rw [hqb] at hj
      have e : (moreQ p).blocks.getD j default = noUpd (p.blocks.getD j default) := by
        show (p.blocks.map noUpd).getD j default = _
        rw [List.getD_eq_getElem?_getD, List.getElem?_map, List.getElem?_eq_getElem hj, List.getD_eq_getElem?_getD, List.getElem?_eq_getElem hj]
        rfl
      rw [e]
      exact m5 j hj) (id := id) (g := g) (P := T.length) (S := T) (by have := (List.getElem?_eq_some_iff.1 m4).1; omega) m4
    rw [hqb] at this
    exact this
  have hCd : CdV (moreQ p).codes cd2 := by
    have hlen : (moreQ p).codes.length = p.codes.length + 1 := by simp [moreQ]
    have := cd_of (cs := (moreQ p).codes) (ms := mc ++ [[w]]) (by rw [hlen]; simp [hC.mcl]) (fun x hx => by
      rcases List.mem_append.1 hx with hx | hx
      · exact hC.mc1 x hx
      · simp at hx; subst hx; rfl) (fun j hj => by
      rw [hlen] at hj
      by_cases hj2 : j < p.codes.length
      · rw [gd_app (by rw [hC.mcl]; exact hj2)]
        show CdC ((p.codes ++ [[(1, 0)]]).getD j []) _
        rw [gd_app hj2]
        exact hC.mc2 j hj2
      · have hj3 : j = p.codes.length := by omega
        rw [hj3]
        show CdC ((p.codes ++ [[(1, 0)]]).getD p.codes.length []) _
        rw [gd_last, ← hC.mcl, gd_last]
        exact ⟨w, rfl, .inr ⟨[], .full, by rw [hw]; rfl⟩⟩) (.tip i2 g2 1)
    rw [hcd2]
    rw [hlen] at this
    simpa using this
  have hSx : FoM (moreQ p).statics sx2 := by
    have hlen : (moreQ p).statics.len = p.statics.len + 1 := by show (foApp p.statics oneP).len = _; rw [foApp_len]; rfl
    refine .inr ⟨copyRow p.statics ++ new, .tip i4 g4 4, by rw [hsx2, hlen], ?_, ?_⟩
    · rw [hlen]; exact b2
    · exact row_app p.statics (u := oneP) ⟨.nils, .nils, [], by rw [hnew], .inl ⟨rfl, rfl⟩, .inl ⟨rfl, rfl⟩, trivial⟩
  have hv := verify_spec (small_Q hR.hsm hR.hsz hcl) (p := moreQ p) (fun row n m h => by rw [hsx2] at h; cases h) (st := T) hC.htx hCd hSx hB (by rw [hsx2]; rfl)
  obtain ⟨S', hS'⟩ := second_half hR he zT
  refine ⟨S', ?_⟩
  refine (br (m_get (n := 1) q1 rfl)).trans ?_
  refine (br (show _ = some (AV.agg [.int .i64 1, .int .i64 0]) from rfl)).trans ?_
  refine (br (show _ = some (AV.is [.int .i64 1, .int .i64 0] 1 .full, T1) from rfl)).trans ?_
  refine (br (show _ = some (AV.is [w] 1 .full, T1) by rw [hw]; rfl)).trans ?_
  refine (br a1).trans ?_
  refine (br s3).trans ?_
  refine (br (m_get (n := 2) q3 rfl)).trans ?_
  refine (br (show _ = some (AV.agg new) by rw [hnew]; rfl)).trans ?_
  refine (br (show _ = some (AV.is new 1 .full, T3) by rw [hnew]; rfl)).trans ?_
  refine (br b1).trans ?_
  refine (br s5).trans ?_
  refine Eq.trans m1 ?_
  rw [stencillaw22_VerifyMore.p111111110100_eq]
  refine (br (m_get (n := 3) qT rfl)).trans ?_
  refine (br (show lenL (.ms id g 0 p.blocks.length 3) = some p.blocks.length from rfl)).trans ?_
  refine (bf (dfalse (by omega))).trans ?_
  refine (br (m_all qT rfl)).trans ?_
  refine (cr hv).trans ?_
  refine (br (x0 _ _)).trans ?_
  refine (br (x1 _ _ _)).trans ?_
  refine (br (x2 _ _ _ _)).trans ?_
  refine (cr (num_spec _ T)).trans ?_
  refine (br (aI _)).trans ?_
  by_cases hq0 : (verA (moreQ p)).2.2 = 0
  · refine (bf (by rw [hq0]; rfl)).trans ?_
    exact hS'
  · refine (bt (by simp only [Bool.not_eq_true', decide_eq_false_iff_not]; omega)).trans ?_
    refine (br (m_get (n := 1) qT rfl)).trans ?_
    refine (br (show lenL cd2 = some (p.codes.length + 1) by rw [hcd2]; rfl)).trans ?_
    by_cases k1 : p.codes.length + 1 ≤ 8192
    · refine (bt (dtrue (by omega))).trans ?_
      refine (br (m_get (n := 2) qT rfl)).trans ?_
      refine (br (show lenL sx2 = some (p.statics.len + 1) by rw [hsx2]; rfl)).trans ?_
      by_cases k2 : p.statics.len + 1 ≤ 4096
      · exact absurd (more_taken he k1 k2) hq0
      · rw [dfalse (show ¬ (((p.statics.len + 1 : Nat) : Int) ≤ 4096) by omega)]
        exact hS'
    · refine (bf (dfalse (by omega))).trans ?_
      exact hS'

theorem more_law {n : Nat} {l : List AV} (h : Shp ap n 27 l) (hb : bulks l ≤ 1048576) : CallR ap 4 [.agg l] [] = some (.ret (.bool true), []) := by
  obtain ⟨p, tx, cd, sx, bl, rfl, hR⟩ := prog_shape h hb
  rw [stencillaw22_VerifyMore.call]
  suffices hb : ∃ S', stencillaw22_VerifyMore.b (.agg [tx, cd, sx, bl]) [] = some ⟨.ret (.bool true), none, S'⟩ by
    obtain ⟨S', k1⟩ := hb
    exact ret_keep k1 rfl rfl ⟨by simp, fun i hi => by simp at hi⟩
  have hec : AV.cells (.agg [tx, cd, sx, bl]) = [tx, cd, sx, bl] := rfl
  have hall : ([tx, cd, sx, bl]).all AV.isCell = true := by
    simp only [List.all_cons, List.all_nil, hR.htx.2.1, hR.hcd.2.1, hR.hcell, hR.hbl.2.1, Bool.and_true]
  obtain ⟨S, hS⟩ : ∃ S, S = ([] : Sto) ++ [Ob.cells 0 [tx, cd, sx, bl] 0] := ⟨_, rfl⟩
  have hp0 : S[0]? = some (.cells 0 [tx, cd, sx, bl] 0) := by rw [hS]; rfl
  have hSl : S.length = 1 := by rw [hS]; rfl
  have r2 : ld false 1 S (.mp 0 0 2) = some sx := m_get hp0 rfl
  have r4 : ld true 4 S (.mp 0 0 0) = some (.agg [tx, cd, sx, bl]) := m_all hp0 rfl
  obtain ⟨sh, hsh⟩ := shallow_spec hR.hsx.fov hR.hsm.s S
  have via1 : ∀ {a b : Option Res} {X : Sto → Option Res}, a = b → (∃ S', b = X S') → ∃ S', a = X S' := fun h k => by rw [h]; exact k
  rw [stencillaw22_VerifyMore.b_eq, hec]
  refine via1 (it hall) ?_
  rw [← hS]
  refine via1 (cr (awake_spec S)) ?_
  refine via1 (br (aB _)) ?_
  refine via1 (bf rfl) ?_
  refine via1 (br r2) ?_
  refine via1 (cr hsh) ?_
  refine via1 (br (aB _)) ?_
  cases sh with
  | false => exact ⟨S, bt rfl⟩
  | true =>
    refine via1 (bf rfl) ?_
    refine via1 (br r4) ?_
    refine via1 (cr (hR.verify S)) ?_
    refine via1 (br (x0 _ _)) ?_
    refine via1 (br (x1 _ _ _)) ?_
    refine via1 (br (x2 _ _ _ _)) ?_
    refine via1 (cr (num_spec _ S)) ?_
    refine via1 (br (aI _)) ?_
    by_cases he : (verA p).2.2 = 0
    · refine via1 (bf (by rw [he]; rfl)) ?_
      refine via1 (br r4) ?_
      obtain ⟨c, tx', cd', sx', bl', mc, mb, U, u1, u2, hC⟩ := copyProgram_spec hR S
      rw [hSl] at hC
      have hU0 : U[0]? = some (.cells 0 [tx, cd, sx, bl] 0) := by rw [u2.at_ 0 (by omega)]; exact hp0
      have kc : cd'.isCell = true := by rcases hC.hcd.is with ⟨rfl, _⟩ | ⟨_, _, rfl, _⟩ <;> rfl
      have ks : sx'.isCell = true := by rcases hC.hsx.is with ⟨rfl, _⟩ | ⟨_, _, rfl, _⟩ <;> rfl
      have kb : bl'.isCell = true := by rcases hC.hbl with ⟨rfl, _⟩ | ⟨_, _, _, rfl, _⟩ <;> rfl
      have s1 : sto 4 (U ++ [Ob.cells 0 [.nils, .nils, .nils, .nils] 0]) (.mp U.length 0 0) (.agg [tx', cd', sx', bl']) = some (U ++ [Ob.cells 0 [tx', cd', sx', bl'] 0]) := m_new (cs := [.nils, .nils, .nils, .nils]) (cs' := [tx', cd', sx', bl']) (by simp only [List.all_cons, List.all_nil, hC.htx.2.1, kc, ks, kb, Bool.and_true]) rfl rfl
      refine via1 (cr u1) ?_
      refine via1 (br s1) ?_
      exact first_half hR he hC hU0 _ rfl
    · exact ⟨S, bt (by simp only [Bool.not_eq_true', decide_eq_false_iff_not]; omega)⟩

/-! ### The last operation gone -/
theorem dl_at {os : List OpA} {k : Nat} (h : k < os.length - 1) : os.dropLast.getD k default = os.getD k default := by
  rw [List.getD_eq_getElem?_getD, List.getElem?_dropLast, List.getD_eq_getElem?_getD, if_pos h]
theorem small_C {p : PrA} (hs : Small p) (j : Nat) : Small (cutQ p j) := by
  have hget : ∀ i, (cutQ p j).blocks.getD i default = if i = j ∧ j < p.blocks.length then cutB (p.blocks.getD j default) else p.blocks.getD i default := fun i => by
    show (p.blocks.set j (cutB (p.blocks.getD j default))).getD i default = _
    by_cases hj : j < p.blocks.length
    · by_cases hi : i = j
      · subst hi; rw [gd_set hj, if_pos ⟨rfl, hj⟩]
      · rw [gd_set_ne hi, if_neg (fun h => hi h.1)]
    · rw [List.set_eq_of_length_le (by omega), if_neg (fun h => hj h.2)]
  refine ⟨hs.t, hs.ts, hs.c, hs.cs, hs.s, by show (p.blocks.set j _).length ≤ _; rw [List.length_set]; exact hs.b, fun i => ?_, fun i k => ?_⟩
  · rw [hget]
    split
    · refine ⟨?_, Nat.zero_le _⟩
      have := (hs.o j).1
      show (p.blocks.getD j default).ops.dropLast.length ≤ _
      rw [List.length_dropLast]
      omega
    · exact hs.o i
  · rw [hget]
    split
    · show ((p.blocks.getD j default).ops.dropLast.getD k default).l.length ≤ _
      by_cases hk : k < (p.blocks.getD j default).ops.dropLast.length
      · rw [dl_at (by rw [List.length_dropLast] at hk; exact hk)]
        exact hs.l j k
      · rw [List.getD_eq_getElem?_getD, List.getElem?_eq_none (by omega)]
        exact Nat.zero_le _
    · exact hs.l i k

theorem cut_half {p : PrA} {tx cd sx bl : AV} (hR : Read p tx cd sx bl) (he : (verA p).2.2 = 0) {j : Nat} (hj : j < p.blocks.length) (hne : (p.blocks.getD j default).ops.length ≠ 0) {T : Sto} (hT : T[0]? = some (.cells 0 [tx, cd, sx, bl] 0)) : ∃ S', stencillaw22_VerifyCuts.p1111101 0 ((j : Nat) : Int) false T = some ⟨.ret (.bool true), none, S'⟩ := by
  obtain ⟨v1, v2, v3, v4⟩ := ver_ok he
  have hT0 := (List.getElem?_eq_some_iff.1 hT).1
  obtain ⟨c, tx', cd', sx', bl', mc, mb, U, u1, u2, hC⟩ := copyProgram_spec hR T
  have hmbl := hC.mbl
  obtain ⟨id, g, hid, rfl, hidS⟩ : ∃ id g, T.length ≤ id ∧ bl' = .ms id g 0 mb.length 3 ∧ U[id]? = some (.cells g mb.flatten 0) := by
    rcases hC.hbl with ⟨_, h⟩ | h
    · exfalso
      rw [h] at hmbl
      simp at hmbl
      omega
    · exact h
  have hidl := (List.getElem?_eq_some_iff.1 hidS).1
  obtain ⟨U1, hU1⟩ : ∃ U1, U1 = U ++ [Ob.cells 0 [tx', cd', sx', .ms id g 0 mb.length 3] 0] := ⟨_, rfl⟩
  have kcd := hC.hcd.is
  have ksx := hC.hsx.is
  have kc : cd'.isCell = true := by rcases kcd with ⟨rfl, _⟩ | ⟨_, _, rfl, _⟩ <;> rfl
  have ks : sx'.isCell = true := by rcases ksx with ⟨rfl, _⟩ | ⟨_, _, rfl, _⟩ <;> rfl
  have hall : ∀ x : AV, x.isCell = true → ([tx', cd', sx', x]).all AV.isCell = true := fun x hx => by
    simp only [List.all_cons, List.all_nil, hC.htx.2.1, kc, ks, hx, Bool.and_true]
  have s1 : sto 4 (U ++ [Ob.cells 0 [.nils, .nils, .nils, .nils] 0]) (.mp U.length 0 0) (.agg [tx', cd', sx', .ms id g 0 mb.length 3]) = some U1 := by rw [hU1]; exact m_new (cs := [.nils, .nils, .nils, .nils]) (cs' := [tx', cd', sx', .ms id g 0 mb.length 3]) (hall _ rfl) rfl rfl
  have q1 : U1[U.length]? = some (.cells 0 [tx', cd', sx', .ms id g 0 mb.length 3] 0) := by rw [hU1]; simp
  have i1 : U1[id]? = some (.cells g mb.flatten 0) := by rw [hU1]; exact app_get hidS
  have hll1 : U1.length = U.length + 1 := by rw [hU1]; simp
  have hfl := flat_len hC.mb1
  -- the block, its operations
  obtain ⟨b, hb⟩ : ∃ b, b = p.blocks.getD j default := ⟨_, rfl⟩
  rw [← hb] at hne
  have hjm : j < mb.length := by omega
  have hbj := hC.mb2 j hj
  have hxj := hC.mbx _ (getD_mem hjm)
  rw [← hb] at hbj
  obtain ⟨ov, uv, hmj, hov, huv⟩ := hbj
  have hex : Ex 5 ov := hxj ov (by rw [hmj]; rfl)
  obtain ⟨row, rfl, hrow⟩ : ∃ row, ov = .is row b.ops.length .no ∧ row.length = b.ops.length * 5 := by
    have hl := hov.1
    rcases hex with rfl | ⟨row, n, rfl, h⟩
    · have : b.ops.length = 0 := by simpa [lenL] using hl.symm
      exact absurd this hne
    · have : n = b.ops.length := by simpa [lenL] using hl
      subst this
      exact ⟨row, rfl, h⟩
  obtain ⟨cl, hcl, lv, rfl, hlv⟩ := hov.2.2.2 (b.ops.length - 1) (by omega)
  obtain ⟨o, ho⟩ : ∃ o, o = b.ops.getD (b.ops.length - 1) default := ⟨_, rfl⟩
  rw [← ho] at hcl hlv
  have hol := (hR.hsm.o j).1
  rw [← hb] at hol
  have hsn : b.ops = b.ops.dropLast ++ [o] := by
    have hne' : b.ops ≠ [] := by intro h; rw [h] at hne; simp at hne
    have e : o = b.ops.getLast hne' := by
      rw [ho, List.getD_eq_getElem?_getD, ← List.getLast?_eq_getElem?, List.getLast?_eq_some_getLast hne']
      rfl
    rw [e]
    exact (List.dropLast_concat_getLast hne').symm
  have w1 : IntKind.wrap .i64 (((b.ops.length : Nat) : Int) - 1) = ((b.ops.length - 1 : Nat) : Int) := w64 _ (by omega) (by omega)
  have hlen : lenL (.is row b.ops.length .no) = some b.ops.length := rfl
  -- in which store we read
  have r3 : ∀ {X : Sto}, X[U.length]? = some (.cells 0 [tx', cd', sx', .ms id g 0 mb.length 3] 0) → ld false 1 X (.mp U.length 0 3) = some (.ms id g 0 mb.length 3) := fun hX => m_get hX rfl
  have hia : ia 3 (.ms id g 0 mb.length 3) (.int .i64 ((j : Nat) : Int)) = some (.mp id g (j * 3)) := by
    simp only [ia, if_true, idx_nat hjm, Option.bind_some, Nat.zero_add]
  have f1' : fa 1 1 (.mp id g (j * 3)) = some (.mp id g (j * 3 + 1)) := rfl
  have f2' : fa 2 1 (.mp id g (j * 3)) = some (.mp id g (j * 3 + 2)) := rfl
  have cellj : mb.flatten[j * 3 + 1]? = some (.is row b.ops.length .no) := by
    have e := flat_at (w := 3) hC.mb1 hjm
    rw [hmj] at e
    have : ((mb.flatten.drop (j * 3)).take 3)[1]? = some (.is row b.ops.length .no) := by rw [e]; rfl
    rwa [List.getElem?_take_of_lt (by omega), List.getElem?_drop] at this
  have ro : ∀ {X : Sto}, X[id]? = some (.cells g mb.flatten 0) → ld false 1 X (.mp id g (j * 3 + 1)) = some (.is row b.ops.length .no) := fun hX => m_get hX cellj
  have l5 : ∀ X : Sto, ld true 5 X (.ip (oc o lv)) = some (.agg (oc o lv)) := fun _ => rfl
  obtain ⟨Z, hZ⟩ : ∃ Z, Z = U1 ++ [Ob.cells 0 [.int .i64 0, .int .i64 0, .int .i64 0, .int .i64 0, .nils] 0] := ⟨_, rfl⟩
  have qZ : Z[U.length]? = some (.cells 0 [tx', cd', sx', .ms id g 0 mb.length 3] 0) := by rw [hZ]; exact app_get q1
  have iZ : Z[id]? = some (.cells g mb.flatten 0) := by rw [hZ]; exact app_get i1
  obtain ⟨U2, hU2⟩ : ∃ U2, U2 = U1 ++ [Ob.cells 0 (oc o lv) 0] := ⟨_, rfl⟩
  have s2 : sto 5 Z (.mp U1.length 0 0) (.agg (oc o lv)) = some U2 := by rw [hZ, hU2]; exact m_new (cs := [.int .i64 0, .int .i64 0, .int .i64 0, .int .i64 0, .nils]) (cs' := oc o lv) (oc_all hlv) rfl rfl
  have q2 : U2[U.length]? = some (.cells 0 [tx', cd', sx', .ms id g 0 mb.length 3] 0) := by rw [hU2]; exact app_get q1
  have i2 : U2[id]? = some (.cells g mb.flatten 0) := by rw [hU2]; exact app_get i1
  have o2 : U2[U1.length]? = some (.cells 0 (oc o lv) 0) := by rw [hU2]; simp
  have hll2 : U2.length = U1.length + 1 := by rw [hU2]; simp
  have hcut : cutL 5 (.is row b.ops.length .no) none (some (.int .i64 ((b.ops.length - 1 : Nat) : Int))) = some (.is row (b.ops.length - 1) (.cut b.ops.length)) := by
    have h1 : bnd b.ops.length b.ops.length (some (.int .i64 ((b.ops.length - 1 : Nat) : Int))) = some (b.ops.length - 1) := by
      unfold bnd
      simp only
      rw [if_pos (by omega)]
      simp
    have h3 : bnd 0 (b.ops.length - 1) none = some 0 := rfl
    have h4 : ¬ b.ops.length - 1 = b.ops.length := by omega
    simp only [cutL, Tok.most, h1, Option.bind_some, h3, hrow, if_true, Tok.part, h4, if_false, Nat.zero_mul, List.drop_zero, Nat.sub_zero]
  obtain ⟨cv, hcv⟩ : ∃ cv : AV, cv = .is row (b.ops.length - 1) (.cut b.ops.length) := ⟨_, rfl⟩
  obtain ⟨ms1, hms1⟩ : ∃ ms, ms = mb.set j ((mb.getD j []).set 1 cv) := ⟨_, rfl⟩
  have hm1l : ms1.length = mb.length := by rw [hms1]; simp
  have hm13 : ∀ x ∈ ms1, x.length = 3 := fun x hx => by
    rw [hms1] at hx
    rcases List.mem_or_eq_of_mem_set hx with hx | rfl
    · exact hC.mb1 x hx
    · rw [List.length_set]; exact hC.mb1 _ (getD_mem hjm)
  obtain ⟨U3, hU3⟩ : ∃ U3, U3 = U2.set id (.cells g ms1.flatten 0) := ⟨_, rfl⟩
  have s3 : sto 1 U2 (.mp id g (j * 3 + 1)) cv = some U3 := by
    rw [sto_atG i2 (by rw [hfl]; omega) (by rw [hcv]; rfl) (by rw [hcv]; rfl), flat_set hC.mb1 hjm (by omega), hU3, hms1]
  have hll3 : U3.length = U2.length := by rw [hU3]; simp
  have q3 : U3[U.length]? = some (.cells 0 [tx', cd', sx', .ms id g 0 mb.length 3] 0) := by rw [hU3, List.getElem?_set_ne (by omega)]; exact q2
  have i3 : U3[id]? = some (.cells g ms1.flatten 0) := by rw [hU3]; exact List.getElem?_set_self (by omega)
  obtain ⟨ms2, hms2⟩ : ∃ ms, ms = ms1.set j ((ms1.getD j []).set 2 .nils) := ⟨_, rfl⟩
  obtain ⟨U4, hU4⟩ : ∃ U4, U4 = U3.set id (.cells g ms2.flatten 0) := ⟨_, rfl⟩
  have s4 : sto 1 U3 (.mp id g (j * 3 + 2)) .nils = some U4 := by
    rw [sto_atG i3 (by rw [flat_len hm13]; omega) rfl rfl, flat_set hm13 (by omega) (by omega), hU4, hms2]
  have hll4 : U4.length = U3.length := by rw [hU4]; simp
  have q4 : U4[U.length]? = some (.cells 0 [tx', cd', sx', .ms id g 0 mb.length 3] 0) := by rw [hU4, List.getElem?_set_ne (by omega)]; exact q3
  have i4 : U4[id]? = some (.cells g ms2.flatten 0) := by rw [hU4]; exact List.getElem?_set_self (by omega)
  have o4 : U4[U1.length]? = some (.cells 0 (oc o lv) 0) := by rw [hU4, List.getElem?_set_ne (by omega), hU3, List.getElem?_set_ne (by omega)]; exact o2
  -- the program that is cut
  have hqb : (cutQ p j).blocks.length = p.blocks.length := by simp [cutQ]
  have hcutOps : OpsV (b.ops.dropLast) cv := by
    have hlen2 : b.ops.dropLast.length = b.ops.length - 1 := by simp
    rw [hcv]
    unfold OpsV
    rw [hlen2]
    refine ⟨rfl, rfl, rfl, fun i hi => ?_⟩
    obtain ⟨cs, a1, a2⟩ := hov.2.2.2 i (by omega)
    refine ⟨cs, ?_, ?_⟩
    · simp only [ia, idx_nat (show i < b.ops.length by omega), Option.bind_some] at a1
      simp only [ia, idx_nat hi, Option.bind_some]
      exact a1
    · show OpC (b.ops.dropLast.getD i default) cs
      rw [dl_at hi]
      exact a2
  have hB : BlV U4.length U4 (cutQ p j).blocks (.ms id g 0 mb.length 3) := by
    have := bl_of (bs := (cutQ p j).blocks) (ms := ms2) (by rw [hqb, hms2, List.length_set, hm1l, hmbl]) (fun x hx => by
      rw [hms2] at hx
      rcases List.mem_or_eq_of_mem_set hx with hx | rfl
      · exact hm13 x hx
      · rw [List.length_set]; exact hm13 _ (getD_mem (by omega))) (fun i hi => by
      rw [hqb] at hi
      show BlC ((p.blocks.set j (cutB (p.blocks.getD j default))).getD i default) _
      rw [← hb, hms2, hms1]
      by_cases hij : i = j
      · subst hij
        rw [gd_set hj, gd_set (by rw [List.length_set]; omega), gd_set hjm, hmj]
        exact ⟨cv, .nils, rfl, hcutOps, el_nil⟩
      · rw [gd_set_ne hij, gd_set_ne hij, gd_set_ne hij]
        exact hC.mb2 i hi) (id := id) (g := g) (P := U4.length) (S := U4) (by omega) i4
    rw [hqb, ← hmbl] at this
    exact this
  have hCd : CdV p.codes cd' := by
    rcases kcd with ⟨rfl, _, h⟩ | ⟨i, g, rfl, _⟩
    · unfold CdV; rw [h]; exact el_nil
    · exact cd_of hC.mcl hC.mc1 hC.mc2 _
  have hSx : FoM p.statics sx' := by
    rcases ksx with ⟨rfl, _, h⟩ | ⟨i, g, rfl, h⟩
    · exact .inl ⟨h, rfl⟩
    · refine .inr ⟨_, _, rfl, h, ?_⟩
      have := copyRow_row p.statics []
      rwa [List.append_nil] at this
  have hno : ∀ row n m, sx' = .is row n (.cut m) → n ≤ m := fun row n m h => by
    rcases ksx with ⟨rfl, _, _⟩ | ⟨_, _, rfl, _⟩ <;> cases h
  have hv := verify_spec (small_C hR.hsm j) hno (st := U4) (p := cutQ p j) hC.htx hCd hSx hB ks
  obtain ⟨p1, p2, p3⟩ := cuts_plain he hj (o := o) (by rw [← hb]; exact hsn)
  have rk : ld false 1 U4 (.mp U1.length 0 0) = some (.int .i64 o.k) := m_get o4 rfl
  -- what is asked at the end
  have fin : ∀ q, q = decide (o.k = 6 ∨ o.k = 12) → stencillaw22_VerifyCuts.p1111111111101 ((j : Nat) : Int) U1.length (.int .i64 (((verA (cutQ p j)).1 : Nat) : Int)) (.int .i64 (((verA (cutQ p j)).2.2 : Nat) : Int)) q U4 = some ⟨.ret (.bool true), none, U4⟩ := by
    intro q hq
    rw [stencillaw22_VerifyCuts.p1111111111101_eq]
    by_cases h6 : o.k = 6 ∨ o.k = 12
    · rw [dtrue h6] at hq
      subst hq
      obtain ⟨a, b⟩ := p1 h6
      refine (bt rfl).trans ?_
      refine (cr (num_spec _ U4)).trans ?_
      refine (br (aI _)).trans ?_
      refine (bt (by rw [a]; rfl)).trans ?_
      refine (br (aI _)).trans ?_
      rw [b, dtrue rfl]
    · rw [dfalse h6] at hq
      subst hq
      refine (bf rfl).trans ?_
      refine (br rk).trans ?_
      refine (br (aI _)).trans ?_
      refine (bf (dfalse fun h => p2 (.inl h))).trans ?_
      refine (br rk).trans ?_
      refine (br (aI _)).trans ?_
      refine (bf (dfalse fun h => p2 (.inr (.inl h)))).trans ?_
      refine (br rk).trans ?_
      refine (br (aI _)).trans ?_
      refine (bf (dfalse fun h => p2 (.inr (.inr (.inl h))))).trans ?_
      refine (br rk).trans ?_
      refine (br (aI _)).trans ?_
      rw [dfalse (show ¬ o.k = 11 from fun h => p2 (.inr (.inr (.inr h)))), stencillaw22_VerifyCuts.p11111111111101_eq]
      refine (bf rfl).trans ?_
      have last : ∀ q, q = decide (o.k = 1 ∨ o.k = 2) → stencillaw22_VerifyCuts.p111111111111101 (.int .i64 (((verA (cutQ p j)).2.2 : Nat) : Int)) q U4 = some ⟨.ret (.bool true), none, U4⟩ := by
        intro q hq
        rw [stencillaw22_VerifyCuts.p111111111111101_eq]
        by_cases h1 : o.k = 1 ∨ o.k = 2
        · rw [dtrue h1] at hq
          subst hq
          refine (bt rfl).trans ?_
          refine (cr (num_spec _ U4)).trans ?_
          refine (br (aI _)).trans ?_
          rw [p3 h1]
          rfl
        · rw [dfalse h1] at hq
          subst hq
          exact bf rfl
      refine (br rk).trans ?_
      refine (br (aI _)).trans ?_
      by_cases h1 : o.k = 1
      · refine (bt (dtrue h1)).trans ?_
        exact last true (by simp [h1])
      · refine (bf (dfalse h1)).trans ?_
        refine (br rk).trans ?_
        refine (br (aI _)).trans ?_
        exact last _ (by simp [h1])
  refine ⟨U4, ?_⟩
  rw [stencillaw22_VerifyCuts.p1111101_eq]
  refine (bf rfl).trans ?_
  refine (br (m_all hT rfl)).trans ?_
  refine (cr u1).trans ?_
  refine (br s1).trans ?_
  refine (br (r3 q1)).trans ?_
  refine (br hia).trans ?_
  refine (br f1').trans ?_
  refine (br (ro i1)).trans ?_
  refine (br (r3 q1)).trans ?_
  refine (br hia).trans ?_
  refine (br f1').trans ?_
  refine (br (ro i1)).trans ?_
  refine (br hlen).trans ?_
  rw [w1]
  refine (br hcl).trans ?_
  refine (br (l5 _)).trans ?_
  rw [← hZ]
  refine (br (l5 _)).trans ?_
  refine (it rfl).trans ?_
  refine (br hlen).trans ?_
  refine (it rfl).trans ?_
  refine (br (ro iZ)).trans ?_
  refine (it rfl).trans ?_
  refine (br (r3 qZ)).trans ?_
  refine (it rfl).trans ?_
  refine (br (ro iZ)).trans ?_
  refine (it rfl).trans ?_
  refine (br (r3 qZ)).trans ?_
  refine (it rfl).trans ?_
  refine (br s2).trans ?_
  refine (br (r3 q2)).trans ?_
  refine (br (r3 q2)).trans ?_
  refine (br hia).trans ?_
  refine (br f1').trans ?_
  refine (br (ro i2)).trans ?_
  refine (br (r3 q2)).trans ?_
  refine (br hia).trans ?_
  refine (br f1').trans ?_
  refine (br (ro i2)).trans ?_
  refine (br hlen).trans ?_
  rw [w1]
  refine (br hcut).trans ?_
  rw [← hcv]
  refine (br hia).trans ?_
  refine (br f1').trans ?_
  refine (br s3).trans ?_
  refine (br (r3 q3)).trans ?_
  refine (br hia).trans ?_
  refine (br f2').trans ?_
  refine (br s4).trans ?_
  refine (br (m_all q4 rfl)).trans ?_
  refine (cr hv).trans ?_
  refine (br (x0 _ _)).trans ?_
  refine (br (x1 _ _ _)).trans ?_
  refine (br (x2 _ _ _ _)).trans ?_
  refine (br rk).trans ?_
  refine (br (aI _)).trans ?_
  by_cases h6 : o.k = 6
  · refine (bt (dtrue h6)).trans ?_
    exact fin true (by simp [h6])
  · refine (bf (dfalse h6)).trans ?_
    refine (br rk).trans ?_
    refine (br (aI _)).trans ?_
    exact fin _ (by simp [h6])

theorem wrapU (x : Int) : IntKind.wrap .u64 x = x % 18446744073709551616 := by
  have e : (2 : Int) ^ IntKind.bits .u64 = 18446744073709551616 := rfl
  have s : IntKind.signed .u64 = false := rfl
  unfold IntKind.wrap
  rw [e, s]
  simp
theorem which_at (w : Int) {n : Nat} (h0 : 0 < n) (hn : n ≤ 1050000) : IntKind.wrap .u64 ((n : Nat) : Int) ≠ 0 ∧ ∃ j : Nat, j < n ∧ IntKind.wrap .i64 (Int.tmod (IntKind.wrap .u64 w) (IntKind.wrap .u64 ((n : Nat) : Int))) = ((j : Nat) : Int) := by
  have e : IntKind.wrap .u64 ((n : Nat) : Int) = ((n : Nat) : Int) := by
    have : ((n : Nat) : Int) % 18446744073709551616 = ((n : Nat) : Int) := Int.emod_eq_of_lt (by omega) (by omega)
    rw [wrapU, this]
  have hp : 0 ≤ IntKind.wrap .u64 w := by
    have := Int.emod_nonneg w (b := 18446744073709551616) (by omega)
    rw [wrapU]
    exact this
  rw [e]
  refine ⟨by omega, (Int.tmod (IntKind.wrap .u64 w) ((n : Nat) : Int)).toNat, ?_, ?_⟩
  · have h1 := Int.tmod_nonneg ((n : Nat) : Int) hp
    have h2 := Int.tmod_lt_of_pos (IntKind.wrap .u64 w) (b := ((n : Nat) : Int)) (by omega)
    omega
  · have h1 := Int.tmod_nonneg ((n : Nat) : Int) hp
    have h2 := Int.tmod_lt_of_pos (IntKind.wrap .u64 w) (b := ((n : Nat) : Int)) (by omega)
    exact w64 _ (by omega) (by omega)

theorem cuts_law {n : Nat} {l : List AV} (h : Shp ap n 27 l) (hb : bulks l ≤ 1048576) (w : Int) : CallR ap 5 [.agg l, .int .i64 w] [] = some (.ret (.bool true), []) := by
  obtain ⟨p, tx, cd, sx, bl, rfl, hR⟩ := prog_shape h hb
  rw [stencillaw22_VerifyCuts.call]
  suffices hb : ∃ S', stencillaw22_VerifyCuts.b (.agg [tx, cd, sx, bl]) w [] = some ⟨.ret (.bool true), none, S'⟩ by
    obtain ⟨S', k1⟩ := hb
    exact ret_keep k1 rfl rfl ⟨by simp, fun i hi => by simp at hi⟩
  have hec : AV.cells (.agg [tx, cd, sx, bl]) = [tx, cd, sx, bl] := rfl
  have hall : ([tx, cd, sx, bl]).all AV.isCell = true := by
    simp only [List.all_cons, List.all_nil, hR.htx.2.1, hR.hcd.2.1, hR.hcell, hR.hbl.2.1, Bool.and_true]
  obtain ⟨S, hS⟩ : ∃ S, S = ([] : Sto) ++ [Ob.cells 0 [tx, cd, sx, bl] 0] := ⟨_, rfl⟩
  have hp0 : S[0]? = some (.cells 0 [tx, cd, sx, bl] 0) := by rw [hS]; rfl
  have r2 : ld false 1 S (.mp 0 0 2) = some sx := m_get hp0 rfl
  have r3 : ld false 1 S (.mp 0 0 3) = some bl := m_get hp0 rfl
  have r4 : ld true 4 S (.mp 0 0 0) = some (.agg [tx, cd, sx, bl]) := m_all hp0 rfl
  obtain ⟨sh, hsh⟩ := shallow_spec hR.hsx.fov hR.hsm.s S
  have via1 : ∀ {a b : Option Res} {X : Sto → Option Res}, a = b → (∃ S', b = X S') → ∃ S', a = X S' := fun h k => by rw [h]; exact k
  rw [stencillaw22_VerifyCuts.b_eq, hec]
  refine via1 (it hall) ?_
  rw [← hS]
  refine via1 (cr (awake_spec S)) ?_
  refine via1 (br (aB _)) ?_
  refine via1 (bf rfl) ?_
  refine via1 (br r2) ?_
  refine via1 (cr hsh) ?_
  refine via1 (br (aB _)) ?_
  have none_ : stencillaw22_VerifyCuts.p1101 w 0 true S = some ⟨.ret (.bool true), none, S⟩ := by
    rw [stencillaw22_VerifyCuts.p1101_eq]
    exact bt rfl
  cases sh with
  | false => exact ⟨S, (bt rfl).trans none_⟩
  | true =>
    refine via1 (bf rfl) ?_
    refine via1 (br r3) ?_
    refine via1 (br hR.hbl.1) ?_
    by_cases h0 : p.blocks.length = 0
    · refine ⟨S, ?_⟩
      rw [dtrue (show ((p.blocks.length : Nat) : Int) = 0 by omega)]
      exact none_
    · rw [dfalse (show ¬ ((p.blocks.length : Nat) : Int) = 0 by omega)]
      obtain ⟨w1, j, hj, w2⟩ := which_at w (n := p.blocks.length) (by omega) hR.hsm.b
      show ∃ S', stencillaw22_VerifyCuts.p1101 w 0 false S = _
      rw [stencillaw22_VerifyCuts.p1101_eq]
      refine via1 (bf rfl) ?_
      refine via1 (br r4) ?_
      refine via1 (cr (hR.verify S)) ?_
      refine via1 (br (x0 _ _)) ?_
      refine via1 (br (x1 _ _ _)) ?_
      refine via1 (br (x2 _ _ _ _)) ?_
      refine via1 (br r3) ?_
      refine via1 (br hR.hbl.1) ?_
      rw [if_neg w1, w2]
      refine via1 (cr (num_spec _ S)) ?_
      refine via1 (br (aI _)) ?_
      have none2 : stencillaw22_VerifyCuts.p1111101 0 ((j : Nat) : Int) true S = some ⟨.ret (.bool true), none, S⟩ := by
        rw [stencillaw22_VerifyCuts.p1111101_eq]
        exact bt rfl
      by_cases he : (verA p).2.2 = 0
      · refine via1 (bf (by rw [he]; rfl)) ?_
        obtain ⟨cs, hci, ov, uv, rfl, hov, huv⟩ := hR.hbl.2.2.2 j hj
        refine via1 (br r3) ?_
        refine via1 (br hci) ?_
        refine via1 (br (show fa 1 1 (.ip [.int .i64 (p.blocks.getD j default).depth, ov, uv]) = some (.ip [ov]) from rfl)) ?_
        refine via1 (br (l1 _ _)) ?_
        refine via1 (br hov.1) ?_
        by_cases hz : (p.blocks.getD j default).ops.length = 0
        · rw [dtrue (show (((p.blocks.getD j default).ops.length : Nat) : Int) = 0 by omega)]
          exact ⟨S, none2⟩
        · rw [dfalse (show ¬ (((p.blocks.getD j default).ops.length : Nat) : Int) = 0 by omega)]
          exact cut_half hR he hj hz hp0
      · exact ⟨S, (bt (by simp only [Bool.not_eq_true', decide_eq_false_iff_not]; omega)).trans none2⟩
end Go.Proofs.YtcgepgahgihojaaDoor
