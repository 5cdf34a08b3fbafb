/- Values: the law of elements. -/
import Derived.Test.YtiiooldjegoikaaDoorVF
import Derived.Test.YtiiooldjegoikaaDoorVEP
namespace Go.Proofs.YtiiooldjegoikaaDoor
open Go.St Go.Lib
set_option linter.unusedVariables false
set_option linter.unusedSimpArgs false

theorem gs {no : Option Res} {yes : Bool → Option Res} {b : Bool} : gOn (some b) no yes = yes b := rfl
theorem dtrue {p : Prop} [Decidable p] (h : p) : decide p = true := decide_eq_true h
theorem dfalse {p : Prop} [Decidable p] (h : ¬ p) : decide p = false := decide_eq_false h
theorem app_get {S l : Sto} {n : Nat} {o : Ob} (h : S[n]? = some o) : (S ++ l)[n]? = some o := by
  rw [List.getElem?_append_left (List.getElem?_eq_some_iff.1 h).1, h]
theorem ld_ip {es : List AV} (hl : es.length = 6) (S : Sto) : ld true 6 S (.ip es) = some (.agg es) := by
  simp only [ld, ldCells, hl, Nat.le_refl, if_true, Option.bind_some]
  rw [← hl, List.take_length]
  rfl

/-- Behind the check of an element against its copy. -/
theorem elem_tail {e : Hd × Va} {es : List AV} {S2 : Sto} {n m i many deep : Nat} (hone : One e.1 e.2 es) (hsz : (Va.cons e.1 e.2 .nil).sz ≤ 1050000) (hm : S2[m]? = some (.cells 0 es 0)) (hk : codeC e.1 e.2 = 0) (hn : countC e.1 e.2 = cnt e.2 + 1) (hd : depthC e.1 e.2 = deepL e.2 + 1) (hb : many + cnt e.2 + 1 ≤ 100000) (hi : i ≤ 1100000) :
    stencillaw5_ValueElements.p111111010010011 n ((many : Nat) : Int) ((deep : Nat) : Int) ((i : Nat) : Int) m S2 = stencillaw5_ValueElements.p1111110100 n ((many + (cnt e.2 + 1) : Nat) : Int) ((max deep (deepL e.2 + 1) : Nat) : Int) ((i + 1 : Nat) : Int) S2 := by
  have hl : es.length = 6 := by obtain ⟨a, p, rfl, _⟩ := hone; rfl
  have g6 : ld true 6 S2 (.mp m 0 0) = some (.agg es) := m_all hm hl
  rw [stencillaw5_ValueElements.p111111010010011_eq]
  refine (br g6).trans ?_
  refine (cr (check_spec hone hsz S2)).trans ?_
  rw [hk]
  refine (cr (num_spec _ S2)).trans ?_
  refine (br (aI _)).trans ?_
  refine (bf rfl).trans ?_
  refine (br g6).trans ?_
  refine (cr (count_spec hone hsz S2)).trans ?_
  rw [hn]
  refine (br (aI _)).trans ?_
  refine (br g6).trans ?_
  refine (cr (depth_spec hone hsz S2)).trans ?_
  rw [hd]
  refine (br (aI _)).trans ?_
  have w1 : IntKind.wrap .i64 (((many : Nat) : Int) + ((cnt e.2 + 1 : Nat) : Int)) = ((many + (cnt e.2 + 1) : Nat) : Int) := w64 _ (by omega) (by omega)
  have w2 : IntKind.wrap .i64 (((i : Nat) : Int) + 1) = ((i + 1 : Nat) : Int) := w64 _ (by omega) (by omega)
  rw [w1, w2, mxI_nat]

theorem elem_loop {h : Hd} {parts : Va} {cs : List AV} {a p : AV} {n : Nat} (hcs : cs = hcells h a p) (h1 : One h parts cs) (hs : (Va.cons h parts .nil).sz ≤ 1050000) (hz : (lkL (.cons h parts .nil) 0 1).2 = 0) :
    ∀ (us : Va) (i many deep : Nat) (S : Sto), parts.drop i = us → i + us.len = parts.len → S[n]? = some (.cells 0 cs 0) → many + cnt us = cnt parts + 1 → max deep (deepL us) = deepL parts →
    ∃ S', stencillaw5_ValueElements.p1111110100 n ((many : Nat) : Int) ((deep : Nat) : Int) ((i : Nat) : Int) S = some ⟨.ret (.bool true), none, S'⟩ := by
  obtain ⟨hf0, hp0, _⟩ := lk_rest hz
  have hcode : countC h parts = cnt parts + 1 ∧ depthC h parts = deepL parts + 1 := (part_code (Nat.le_refl _) hz).2
  have hbig : cnt parts + 1 ≤ 16384 := by
    have e := (lk_mono _ _ _ _ _ hz (Nat.le_refl _) (Nat.le_refl _)).1
    have k := (lkL_le (.cons h parts .nil) 0 1 (by omega)).2
    rw [e] at k
    simp only [cnt] at k
    omega
  have hdeep := deepL_le parts
  have hlen := len_sz parts
  have hsz := hs
  simp only [Va.sz] at hsz
  have hal := alone_kind (alone_of hf0)
  have hall := h1.all
  have hc6 : cs.length = 6 := by rw [hcs]; rfl
  obtain ⟨a', p', hcs', hIn, ha, hp⟩ := h1
  have hcs'' := hcs'
  rw [hcs] at hcs'
  simp only [hcells, List.cons.injEq, and_true, true_and] at hcs'
  obtain ⟨rfl, rfl⟩ := hcs'
  have h1 : One h parts cs := ⟨a, p, hcs'', hIn, ha, hp⟩
  intro us
  induction us with
  | nil =>
    intro i many deep S hdr hil hS hmany hdp
    simp only [Va.len, Nat.add_zero, cnt, deepL, Nat.max_zero] at hil hmany hdp
    have g5 : ld false 1 S (.mp n 0 5) = some p := m_get hS (by rw [hcs]; rfl)
    have g6 : ld true 6 S (.mp n 0 0) = some (.agg cs) := m_all hS hc6
    refine ⟨S, ?_⟩
    rw [stencillaw5_ValueElements.p1111110100_eq]
    refine (br g5).trans ?_
    refine (br hp.len).trans ?_
    refine (bf (dfalse (by omega))).trans ?_
    refine (br g6).trans ?_
    refine (cr (count_spec h1 hs S)).trans ?_
    rw [hcode.1]
    refine (br (aI _)).trans ?_
    refine (bt (dtrue (by omega))).trans ?_
    refine (br g6).trans ?_
    refine (cr (depth_spec h1 hs S)).trans ?_
    rw [hcode.2]
    refine (br (aI _)).trans ?_
    have w2 : IntKind.wrap .i64 (((deep : Nat) : Int) + 1) = ((deep + 1 : Nat) : Int) := w64 _ (by omega) (by omega)
    rw [w2, hdp, dtrue rfl]
  | cons eh ep rest ihp ihr =>
    intro i many deep S hdr hil hS hmany hdp
    obtain ⟨he, hdr2, hi⟩ := get_drop hdr
    simp only [Va.len, cnt, deepL] at hil hmany hdp
    obtain ⟨es, hone, hia⟩ := va_get hp he hi
    have hesz : (Va.cons eh ep .nil).sz ≤ 1050000 := by
      have := Va.get_sz he
      simp only at this
      omega
    have hcodes := part_code (Nat.le_succ 1) (by rw [← hdr]; exact lk_drop parts i _ _ hp0)
    have hl6 : es.length = 6 := by obtain ⟨a, p, rfl, _⟩ := hone; rfl
    obtain ⟨ws, hws⟩ : ∃ ws, ws = cpC eh ep es := ⟨_, rfl⟩
    have hwone : One eh ep ws := by rw [hws]; exact cpC_one hone
    have hw6 : ws.length = 6 := by obtain ⟨a, p, rfl, _⟩ := hwone; rfl
    obtain ⟨S1, hS1⟩ : ∃ S1, S1 = S ++ [Ob.cells 0 es 0] := ⟨_, rfl⟩
    obtain ⟨S2, hS2⟩ : ∃ S2, S2 = S1 ++ [Ob.cells 0 ws 0] := ⟨_, rfl⟩
    have ez : [AV.int .i64 0, .bool false, .int .i64 0, .str ⟨#[]⟩, .nils, .nils] = zeroV := rfl
    have q1 : sto 6 (S ++ [Ob.cells 0 zeroV 0]) (.mp S.length 0 0) (.agg es) = some S1 := by rw [hS1]; exact m_new hone.all (by rw [hl6]; rfl) rfl
    have q2 : sto 6 (S1 ++ [Ob.cells 0 zeroV 0]) (.mp S1.length 0 0) (.agg ws) = some S2 := by rw [hS2]; exact m_new hwone.all (by rw [hw6]; rfl) rfl
    have n1 : S1[n]? = some (.cells 0 cs 0) := by rw [hS1]; exact app_get hS
    have n2 : S2[n]? = some (.cells 0 cs 0) := by rw [hS2]; exact app_get n1
    have m2 : S2[S.length]? = some (.cells 0 es 0) := by rw [hS2]; exact app_get (by rw [hS1]; simp)
    have k2 : S2[S1.length]? = some (.cells 0 ws 0) := by rw [hS2]; simp
    obtain ⟨S', hnext⟩ := ihr (i + 1) (many + (cnt ep + 1)) (max deep (deepL ep + 1)) S2 hdr2 (by omega) n2 (by omega) (by omega)
    refine ⟨S', ?_⟩
    refine Eq.trans ?_ hnext
    refine Eq.trans ?_ (elem_tail (e := (eh, ep)) hone hesz m2 hcodes.1 hcodes.2.1 hcodes.2.2 (by simp only; omega) (by omega))
    have g5 : ld false 1 S (.mp n 0 5) = some p := m_get hS (by rw [hcs]; rfl)
    rw [stencillaw5_ValueElements.p1111110100_eq, ez]
    refine (br g5).trans ?_
    refine (br hp.len).trans ?_
    refine (bt (dtrue (by omega))).trans ?_
    refine (br g5).trans ?_
    refine (br hia).trans ?_
    refine (br (ld_ip hl6 S)).trans ?_
    refine (br q1).trans ?_
    have g0 : ld false 1 S1 (.mp n 0 0) = some (.int .i64 h.k) := m_get n1 (by rw [hcs]; rfl)
    refine (br g0).trans ?_
    refine (br (aI _)).trans ?_
    have g6 : ld true 6 S1 (.mp n 0 0) = some (.agg cs) := m_all n1 hc6
    have l6 : ld true 6 S2 (.mp S.length 0 0) = some (.agg es) := m_all m2 hl6
    have w6 : ld true 6 S2 (.mp S1.length 0 0) = some (.agg ws) := m_all k2 hw6
    have hsame := same_spec hone hwone hesz hesz S2
    rw [same1_refl] at hsame
    by_cases k5 : h.k = 5
    · refine (bt (dtrue k5)).trans ?_
      refine (br g6).trans ?_
      have hx := indexF_spec hcs h1 hs k5 hi he hone hia S1
      simp only [← hws] at hx
      refine (cr hx).trans ?_
      refine (br (x0 _ _)).trans ?_
      refine (br (x1 _ _ _)).trans ?_
      refine (br q2).trans ?_
      refine (cr (num_spec 0 S2)).trans ?_
      refine (br (aI _)).trans ?_
      refine (bf rfl).trans ?_
      refine (br l6).trans ?_
      refine (br w6).trans ?_
      refine (cr hsame).trans ?_
      refine (br (aB _)).trans ?_
      rw [stencillaw5_ValueElements.p1111110100100101011_eq]
      rfl
    · have k6 : h.k = 6 := by
        rcases hal.1 (by omega) with k | k
        · exact absurd k k5
        · exact k
      obtain ⟨hnl, hnd⟩ := hal.2 k6
      refine (bf (dfalse k5)).trans ?_
      refine (br g6).trans ?_
      have g4 : ld false 1 S1 (.mp n 0 4) = some a := m_get n1 (by rw [hcs]; rfl)
      refine (br g4).trans ?_
      obtain ⟨x, hx⟩ : ∃ x, h.names[i]? = some x := ⟨_, List.getElem?_eq_getElem (by omega)⟩
      have hxl : i < h.names.length := by omega
      have hsplit : h.names = h.names.take i ++ x :: h.names.drop (i + 1) := by
        have e := List.getElem?_eq_getElem hxl
        rw [hx] at e
        cases e
        rw [← List.drop_eq_getElem_cons hxl, List.take_append_drop]
      have hna : ia 1 a (.int .i64 ((i : Nat) : Int)) = some (.ip [.str x]) := nam_at (by rw [← hsplit]; exact ha) (by rw [List.length_take]; omega)
      refine (br hna).trans ?_
      refine (br (ld1 _ _)).trans ?_
      have hfi := findP_at hnd hx
      have hx1 := fieldF_spec hcs h1 hs k6 hfi hi he hone hia S1
      have hx2 := fieldF_spec hcs h1 hs k6 hfi hi he hone hia (S1 ++ [Ob.cells 0 zeroV 0])
      simp only [← hws] at hx1 hx2
      refine (cr hx1).trans ?_
      refine (it rfl).trans ?_
      refine (br (x0 _ _)).trans ?_
      refine (br (x1 _ _ _)).trans ?_
      refine (br hx2).trans ?_
      refine (it rfl).trans ?_
      refine (br (ld1 _ _)).trans ?_
      refine (it rfl).trans ?_
      have n1' : (S1 ++ [Ob.cells 0 zeroV 0])[n]? = some (.cells 0 cs 0) := app_get n1
      have g4' : ld false 1 (S1 ++ [Ob.cells 0 zeroV 0]) (.mp n 0 4) = some a := m_get n1' (by rw [hcs]; rfl)
      refine (br g4').trans ?_
      refine (it rfl).trans ?_
      have g6' : ld true 6 (S1 ++ [Ob.cells 0 zeroV 0]) (.mp n 0 0) = some (.agg cs) := m_all n1' hc6
      refine (br g6').trans ?_
      refine (it rfl).trans ?_
      refine (br q2).trans ?_
      refine (cr (num_spec 0 S2)).trans ?_
      refine (br (aI _)).trans ?_
      refine (bf rfl).trans ?_
      refine (br l6).trans ?_
      refine (br w6).trans ?_
      refine (cr hsame).trans ?_
      refine (br (aB _)).trans ?_
      rw [stencillaw5_ValueElements.p1111110100100101111_eq]
      rfl

theorem elements_at {h : Hd} {parts : Va} {cs : List AV} (h1 : One h parts cs) (hs : (Va.cons h parts .nil).sz ≤ 1050000) : CallR ap 8 [.agg cs] [] = some (.ret (.bool true), []) := by
  rw [stencillaw5_ValueElements.call]
  suffices hb : ∃ st', stencillaw5_ValueElements.b (.agg cs) [] = some ⟨.ret (.bool true), none, st'⟩ by
    obtain ⟨st', k1⟩ := hb
    exact ret_keep k1 rfl rfl ⟨by simp, fun i hi => by simp at hi⟩
  have hall := h1.all
  have hc6 : cs.length = 6 := by obtain ⟨a, p, rfl, _⟩ := h1; rfl
  have hsz := hs
  simp only [Va.sz] at hsz
  obtain ⟨S, hS⟩ : ∃ S, S = ([] : Sto) ++ [Ob.cells 0 cs 0] := ⟨_, rfl⟩
  have n0 : S[0]? = some (.cells 0 cs 0) := by rw [hS]; rfl
  have g6 : ld true 6 S (.mp 0 0 0) = some (.agg cs) := m_all n0 hc6
  rw [stencillaw5_ValueElements.b_eq, agg_cells]
  obtain ⟨q, hq⟩ := shallow_spec h1 (by omega) S
  cases q with
  | false =>
    refine ⟨S, ?_⟩
    refine (it hall).trans ?_
    rw [← hS]
    refine (cr (awakeV S)).trans ?_
    refine (br (aB _)).trans ?_
    refine (bf rfl).trans ?_
    refine (br g6).trans ?_
    refine (cr hq).trans ?_
    refine (br (aB _)).trans ?_
    exact bt rfl
  | true =>
    suffices hb : ∃ st', (((ld true 6 S (.mp 0 0 0)).bind fun v10 => (CallR ap 11 [v10] S).bind fun x11 => x11.1.on (fun v12 => (CallR ap 14 [v12] x11.2).bind fun x14 => x14.1.on (fun v15 => (asI .i64 v15).bind fun n17 => bif (!decide (n17 = 0)) then ((ld true 6 x14.2 (.mp 0 0 0)).bind fun v18 => (CallR ap 12 [v18] x14.2).bind fun x19 => x19.1.on (fun v20 => (asI .i64 v20).bind fun n22 => bif (decide (n22 = 0)) then ((ld true 6 x19.2 (.mp 0 0 0)).bind fun v23 => (CallR ap 13 [v23] x19.2).bind fun x24 => x24.1.on (fun v25 => (asI .i64 v25).bind fun n27 => some ⟨.ret (.bool (decide (n27 = 0))), none, x24.2⟩) (fun e26 => some ⟨.pan e26, none, x24.2⟩)) else (some ⟨.ret (.bool false), none, x19.2⟩)) (fun e21 => some ⟨.pan e21, none, x19.2⟩)) else (stencillaw5_ValueElements.p1111110100 0 1 0 0 x14.2)) (fun e16 => some ⟨.pan e16, none, x14.2⟩)) (fun e13 => some ⟨.pan e13, none, x11.2⟩)) : Option Res) = some ⟨.ret (.bool true), none, st'⟩ by
      obtain ⟨st', hb⟩ := hb
      refine ⟨st', ?_⟩
      refine (it hall).trans ?_
      rw [← hS]
      refine (cr (awakeV S)).trans ?_
      refine (br (aB _)).trans ?_
      refine (bf rfl).trans ?_
      refine (br g6).trans ?_
      refine (cr hq).trans ?_
      refine (br (aB _)).trans ?_
      refine (bf rfl).trans ?_
      exact hb
    by_cases hc : codeC h parts = 0
    · have hz : (lkL (.cons h parts .nil) 0 1).2 = 0 := by rw [← codeC_eq]; exact hc
      obtain ⟨a, p, hcs, _⟩ := id h1
      obtain ⟨S', hl⟩ := elem_loop (n := 0) hcs h1 hs hz parts 0 1 0 S (by cases parts <;> rfl) (by omega) n0 (by omega) (by omega)
      refine ⟨S', ?_⟩
      refine (br g6).trans ?_
      refine (cr (check_spec h1 hs S)).trans ?_
      rw [hc]
      refine (cr (num_spec _ S)).trans ?_
      refine (br (aI _)).trans ?_
      refine (bf rfl).trans ?_
      exact hl
    · refine ⟨S, ?_⟩
      refine (br g6).trans ?_
      refine (cr (check_spec h1 hs S)).trans ?_
      refine (cr (num_spec _ S)).trans ?_
      refine (br (aI _)).trans ?_
      refine (bt (by simp; omega)).trans ?_
      refine (br g6).trans ?_
      refine (cr (depth_spec h1 hs S)).trans ?_
      have hd : depthC h parts = 0 := by unfold depthC; rw [if_neg hc]
      have hn : countC h parts = 0 := by unfold countC; rw [if_neg hc]
      rw [hd]
      refine (br (aI _)).trans ?_
      refine (bt rfl).trans ?_
      refine (br g6).trans ?_
      refine (cr (count_spec h1 hs S)).trans ?_
      rw [hn]
      rfl

theorem elements_law {n : Nat} {l : List AV} (h : Shp ap n 25 l) (hb : bulks l ≤ 1048576) : CallR ap 8 [.agg l] [] = some (.ret (.bool true), []) := by
  obtain ⟨hd, parts, h1, hs⟩ := val_shape n l h
  exact elements_at h1 (by omega)
end Go.Proofs.YtiiooldjegoikaaDoor
