/- The document's lexer: tags, all; LexTokens. -/
import Derived.Test.YtigdijdpggjpiaaDoorI
namespace Go.Proofs.YtigdijdpggjpiaaDoor
open Go.St Go.Lib
set_option linter.unusedVariables false
set_option linter.unusedSimpArgs false

section
variable {n : Nat} {s : ByteArray} {st : Sto} {a c b : Nat} {ts : List Tk} {x : AV}

theorem rtag_stop (h : st[n]? = some (RX s a x c b)) (hc : c ≠ 0) : stencilref12_lexer_tag.p111100 (.mp n 0 0) st = some ⟨.ret (.tup []), none, st⟩ := by
  have e1 : decide (((c : Nat) : Int) = 0) = false := decide_eq_false (by omega)
  rw [stencilref12_lexer_tag.p111100_eq]
  simp only [nkm, fam, rx_code h, Option.bind_some, asI, if_true, e1, cond_false]

theorem L_self1 (a : Nat) : aggA (fillA (fun i => ([(0, 1), (1, 1), (2, 1), (3, 1)] : List (Nat × Nat))[i]?) [.int .i64 0, .str ⟨#[]⟩, .str ⟨#[]⟩, .int .i64 0] [(0, (.int .i64 7)), (3, .int .i64 ((a : Nat) : Int))]) = some (.agg (tcell ⟨7, [], [], a⟩)) := rfl
theorem L_close1 (a : Nat) (w : List UInt8) : aggA (fillA (fun i => ([(0, 1), (1, 1), (2, 1), (3, 1)] : List (Nat × Nat))[i]?) [.int .i64 0, .str ⟨#[]⟩, .str ⟨#[]⟩, .int .i64 0] [(0, (.int .i64 8)), (1, .str (mk w)), (3, .int .i64 ((a : Nat) : Int))]) = some (.agg (tcell ⟨8, w, [], a⟩)) := rfl
theorem L_open2 (a : Nat) (w : List UInt8) : aggA (fillA (fun i => ([(0, 1), (1, 1), (2, 1), (3, 1)] : List (Nat × Nat))[i]?) [.int .i64 0, .str ⟨#[]⟩, .str ⟨#[]⟩, .int .i64 0] [(0, (.int .i64 3)), (1, .str (mk w)), (3, .int .i64 ((a : Nat) : Int))]) = some (.agg (tcell ⟨3, w, [], a⟩)) := rfl

theorem rattrs_walk (hs : s.size ≤ 65536) : ∀ (m a : Nat) (st : Sto) (ts : List Tk), RS n s st a 0 0 ts → s.size < a + m → a ≤ s.size → ts.length ≤ a →
    PVB n s st ts (attrsM m s.data.toList a) (stencilref12_lexer_tag.p111100 (.mp n 0 0) st) := by
  intro m
  induction m with
  | zero => intro a st ts h h1 h2; omega
  | succ m ih =>
    intro a st ts h hm ha hts
    obtain ⟨x, h0, hr⟩ := h
    have hble := bl_le (s.data.toList.drop a)
    rw [drop_len] at hble
    have hbl := rblanks_spec h0 (hr.old (Nat.le_refl _)) ha hs
    obtain ⟨a1, ha1⟩ : ∃ a1, a1 = a + bl (s.data.toList.drop a) := ⟨_, rfl⟩
    obtain ⟨st1, hst1⟩ : ∃ st1, st1 = st.set n (RX s a1 x 0 0) := ⟨_, rfl⟩
    rw [← ha1, ← hst1] at hbl
    have h1 : st1[n]? = some (RX s a1 x 0 0) := by rw [hst1]; exact lx_set (rx_lt h0) _
    have hr1 : RowI (n + 1) st1 x ts := by rw [hst1]; exact hr.set _
    have hk1 : Keeps n st st1 := by rw [hst1]; exact Keeps.set (Nat.le_refl _)
    have hold := hr1.old (Nat.le_refl _)
    have i1 := here_spec h1 (by omega) hs ⟨#[62]⟩ (by decide)
    rw [show (ByteArray.mk #[62]).data.toList = [62] from rfl] at i1
    have i2 := here_spec h1 (by omega) hs ⟨#[47, 62]⟩ (by decide)
    rw [show (ByteArray.mk #[47, 62]).data.toList = [47, 62] from rfl, pre_cons] at i2
    have i3 := here_spec h1 (by omega) hs ⟨#[47]⟩ (by decide)
    rw [show (ByteArray.mk #[47]).data.toList = [47] from rfl] at i3
    have d0 : decide (((0 : Nat) : Int) = 0) = true := rfl
    rw [stencilref12_lexer_tag.p111100_eq]
    simp only [nkm, fam, rx_code h0, Option.bind_some, asI, asB, if_true, d0, cond_true, hbl, Out.on, i1, attrsM, ← ha1]
    cases h47 : pre [47] (s.data.toList.drop a1) with
    | true =>
      have hl := pre_drop h47
      simp only [List.length_cons, List.length_nil, ← size_list, List.cons_ne_nil, or_false] at hl
      have h62 : pre [62] (s.data.toList.drop a1) = false := by
        cases hd : s.data.toList.drop a1 with
        | nil => rfl
        | cons d r =>
          rw [hd] at h47
          simp only [pre, List.isPrefixOf, Bool.and_true, beq_iff_eq] at h47
          subst h47
          rfl
      rw [h47] at i2 i3
      simp only [Bool.true_and] at i2
      simp only [h62, cond_false, if_true, i2, Option.bind_some, Out.on, asB]
      cases h63 : pre [62] (s.data.toList.drop (a1 + 1)) with
      | true =>
        have hl3 := pre_drop h63
        simp only [List.length_cons, List.length_nil, ← size_list, List.cons_ne_nil, or_false] at hl3
        have hw : IntKind.wrap .i64 (((a1 : Nat) : Int) + 2) = ((a1 + 1 + 1 : Nat) : Int) := w64 _ (by omega) (by omega)
        obtain ⟨x', st', k1, k2, k3, k4, k5⟩ := RS.add h1 hr1 (by omega) ⟨7, [], [], a1⟩
        simp only [cond_true, if_true, nkm, fam, rx_out h1, rx_at h1, Option.bind_some, L_self1, lit_tok, k1, k2, rx_at k3, asI, hw, rx_sat k3]
        exact ⟨_, rfl, RS.mk' k3 k4 _ _ _, hk1.trans (k5.trans (Keeps.set (Nat.le_refl _)))⟩
      | false =>
        have hw : IntKind.wrap .i64 (((a1 : Nat) : Int) + 1) = ((a1 + 1 : Nat) : Int) := w64 _ (by omega) (by omega)
        have hf := rfail_spec h1 hold 1202 (a1 + 1)
        simp only [cond_false, Bool.false_eq_true, if_false, i3, Option.bind_some, Out.on, asB, cond_true, nkm, fam, rx_at h1, asI, if_true, hw]
        rw [show ((1202 : Int)) = ((1202 : Nat) : Int) from rfl, hf]
        simp only [Option.bind_some, Out.on]
        rw [rtag_stop (lx_set (rx_lt h1) (RX s a1 x 1202 (a1 + 1))) (by decide)]
        exact ⟨_, _, _, rfl, RS.mk' h1 hr1 _ _ _, hk1.trans (Keeps.set (Nat.le_refl _))⟩
    | false =>
      rw [h47] at i2 i3
      simp only [Bool.false_and] at i2
      simp only [Bool.false_eq_true, if_false]
      cases h62 : pre [62] (s.data.toList.drop a1) with
      | true =>
        have hl := pre_drop h62
        simp only [List.length_cons, List.length_nil, ← size_list, List.cons_ne_nil, or_false] at hl
        have hw : IntKind.wrap .i64 (((a1 : Nat) : Int) + 1) = ((a1 + 1 : Nat) : Int) := w64 _ (by omega) (by omega)
        obtain ⟨x', st', k1, k2, k3, k4, k5⟩ := RS.add h1 hr1 (by omega) ⟨6, [], [], a1⟩
        simp only [cond_true, if_true, nkm, fam, rx_out h1, rx_at h1, Option.bind_some, L_end1, lit_tok, k1, k2, rx_at k3, asI, hw, rx_sat k3]
        exact ⟨_, rfl, RS.mk' k3 k4 _ _ _, hk1.trans (k5.trans (Keeps.set (Nat.le_refl _)))⟩
      | false =>
        simp only [cond_false, Bool.false_eq_true, if_false, i2, i3, Option.bind_some, Out.on, asB]
        by_cases hz : bl (s.data.toList.drop a) = 0
        · have e0 : decide (((bl (s.data.toList.drop a) : Nat) : Int) = 0) = true := decide_eq_true (by omega)
          have hf := rfail_spec h1 hold 1202 a1
          simp only [e0, cond_true, nkm, fam, rx_at h1, Option.bind_some]
          rw [if_pos hz, show ((1202 : Int)) = ((1202 : Nat) : Int) from rfl, hf]
          simp only [Option.bind_some, Out.on]
          rw [rtag_stop (lx_set (rx_lt h1) (RX s a1 x 1202 a1)) (by decide)]
          exact ⟨_, _, _, rfl, RS.mk' h1 hr1 _ _ _, hk1.trans (Keeps.set (Nat.le_refl _))⟩
        · have e0 : decide (((bl (s.data.toList.drop a) : Nat) : Int) = 0) = false := decide_eq_false (by omega)
          simp only [e0, cond_false]
          rw [if_neg hz]
          have hat := rattr_walk ⟨x, h1, hr1⟩ hs (by omega) (by omega)
          cases hq : attrM s.data.toList a1 with
          | error e =>
            have hne := attrM_err (by rw [← size_list]; omega) hq
            rw [hq] at hat
            obtain ⟨st', a', ts', k1, ⟨x', k2, k2'⟩, k3⟩ := hat
            simp only [k1, Option.bind_some, Out.on]
            rw [rtag_stop k2 (by have := hne.1; omega)]
            exact ⟨_, _, _, rfl, ⟨x', k2, k2'⟩, hk1.trans k3⟩
          | ok r =>
            rw [hq] at hat
            obtain ⟨st', k1, k2, k3⟩ := hat
            have e1 := attr_lt hq
            have e2 := attrM_len hq
            rw [← size_list] at e1
            have nx := ih r.2 st' (ts ++ r.1) k2 (by omega) (by omega) (by rw [List.length_append]; omega)
            simp only [k1, Option.bind_some, Out.on]
            cases hz : attrsM m s.data.toList r.2 with
            | error e =>
              rw [hz] at nx
              obtain ⟨st'', a', ts', j1, j2, j3⟩ := nx
              exact ⟨_, _, _, j1, j2, hk1.trans (k3.trans j3)⟩
            | ok z =>
              rw [hz] at nx
              obtain ⟨st'', j1, j2, j3⟩ := nx
              rw [List.append_assoc] at j2
              exact ⟨_, j1, j2, hk1.trans (k3.trans j3)⟩

/-- The end of a closing tag. -/
theorem rclose_end (h : st[n]? = some (RX s a x c b)) (hr : RowI (n + 1) st x ts) (hts : ts.length ≤ 1000000) (w : List UInt8) (p : Nat) :
    ∃ st', stencilref12_lexer_tag.p11010111 (.mp n 0 0) (.int .i64 (p : Nat)) (.str (mk w)) st = some ⟨.ret (.tup []), none, st'⟩ ∧ RS n s st' a c b (ts ++ [⟨8, w, [], p⟩]) ∧ Keeps n st st' := by
  obtain ⟨x', st', k1, k2, k3, k4, k5⟩ := RS.add h hr hts ⟨8, w, [], p⟩
  refine ⟨_, ?_, ⟨_, k3, k4⟩, k5⟩
  rw [stencilref12_lexer_tag.p11010111_eq]
  simp only [nkm, fam, rx_out h, Option.bind_some, L_close1, lit_tok, k1, k2]

theorem rtag_walk (h : RS n s st a 0 0 ts) (hs : s.size ≤ 65536) (hts : ts.length ≤ a) (hp : pre [60] (s.data.toList.drop a) = true) :
    PV n s st ts (tagM s.data.toList a) (CallR ap 19 [.mp n 0 0] st) := by
  rw [stencilref12_lexer_tag.call]
  refine pv_of h ?_
  obtain ⟨x, h0, hr⟩ := h
  have hl := pre_drop hp
  simp only [List.length_cons, List.length_nil, ← size_list, List.cons_ne_nil, or_false] at hl
  have hw : IntKind.wrap .i64 (((a : Nat) : Int) + 1) = ((a + 1 : Nat) : Int) := w64 _ (by omega) (by omega)
  obtain ⟨st1, hst1⟩ : ∃ st1, st1 = st.set n (RX s (a + 1) x 0 0) := ⟨_, rfl⟩
  have h1 : st1[n]? = some (RX s (a + 1) x 0 0) := by rw [hst1]; exact lx_set (rx_lt h0) _
  have hr1 : RowI (n + 1) st1 x ts := by rw [hst1]; exact hr.set _
  have hk1 : Keeps n st st1 := by rw [hst1]; exact Keeps.set (Nat.le_refl _)
  have hold := hr1.old (Nat.le_refl _)
  have hi := here_spec h1 (by omega) hs ⟨#[47]⟩ (by decide)
  rw [show (ByteArray.mk #[47]).data.toList = [47] from rfl] at hi
  have d0 : decide (((0 : Nat) : Int) = 0) = true := rfl
  have d12 : decide (((1202 : Nat) : Int) = 0) = false := rfl
  rw [stencilref12_lexer_tag.b_eq]
  simp only [nkm, fam, rx_at h0, Option.bind_some, asI, if_true, hw, rx_sat h0, ← hst1, hi, Out.on, asB]
  unfold tagM
  cases h47 : pre [47] (s.data.toList.drop (a + 1)) with
  | true =>
    have hl2 := pre_drop h47
    simp only [List.length_cons, List.length_nil, ← size_list, List.cons_ne_nil, or_false] at hl2
    have hw2 : IntKind.wrap .i64 (((a + 1 : Nat) : Int) + 1) = ((a + 2 : Nat) : Int) := w64 _ (by omega) (by omega)
    obtain ⟨st2, hst2⟩ : ∃ st2, st2 = st1.set n (RX s (a + 2) x 0 0) := ⟨_, rfl⟩
    have h2 : st2[n]? = some (RX s (a + 2) x 0 0) := by rw [hst2]; exact lx_set (rx_lt h1) _
    have hr2 : RowI (n + 1) st2 x ts := by rw [hst2]; exact hr1.set _
    have hk2 : Keeps n st1 st2 := by rw [hst2]; exact Keeps.set (Nat.le_refl _)
    have hold2 := hr2.old (Nat.le_refl _)
    have hnw := rname_spec h2 hold2 (by omega) hs
    simp only [cond_true, if_true, nkm, fam, rx_at h1, Option.bind_some, asI, hw2, rx_sat h1, ← hst2, hnw, Out.on]
    cases hb : badN (s.data.toList.drop (a + 2)) with
    | true =>
      have h3 := lx_set (rx_lt h2) (RX s (a + 2 + nm (s.data.toList.drop (a + 2))) x 1202 (a + 2))
      simp only [if_true, rx_code h3, Option.bind_some, asI, d12, cond_false]
      obtain ⟨st', k1, k2, k3⟩ := rclose_end h3 (hr2.set _) (by omega) ((s.data.toList.drop (a + 2)).take (nm (s.data.toList.drop (a + 2)))) a
      exact ⟨_, _, _, k1, k2, hk1.trans (hk2.trans ((Keeps.set (Nat.le_refl _)).trans k3))⟩
    | false =>
      obtain ⟨hpos, _, hle⟩ := badN_false hb
      rw [List.length_drop, ← size_list] at hle
      unfold close2
      obtain ⟨w, hw⟩ : ∃ w, w = (s.data.toList.drop (a + 2)).take (nm (s.data.toList.drop (a + 2))) := ⟨_, rfl⟩
      rw [← hw]
      obtain ⟨a2, ha2⟩ : ∃ a2, a2 = a + 2 + nm (s.data.toList.drop (a + 2)) := ⟨_, rfl⟩
      rw [← ha2]
      obtain ⟨st3, hst3⟩ : ∃ st3, st3 = st2.set n (RX s a2 x 0 0) := ⟨_, rfl⟩
      have h3 : st3[n]? = some (RX s a2 x 0 0) := by rw [hst3]; exact lx_set (rx_lt h2) _
      have hr3 : RowI (n + 1) st3 x ts := by rw [hst3]; exact hr2.set _
      have hk3 : Keeps n st2 st3 := by rw [hst3]; exact Keeps.set (Nat.le_refl _)
      have hble := bl_le (s.data.toList.drop a2)
      rw [drop_len] at hble
      have hbl := rblanks_spec h3 (hr3.old (Nat.le_refl _)) (by omega) hs
      obtain ⟨a3, ha3⟩ : ∃ a3, a3 = a2 + bl (s.data.toList.drop a2) := ⟨_, rfl⟩
      rw [← ha3] at hbl ⊢
      obtain ⟨st4, hst4⟩ : ∃ st4, st4 = st3.set n (RX s a3 x 0 0) := ⟨_, rfl⟩
      have h4 : st4[n]? = some (RX s a3 x 0 0) := by rw [hst4]; exact lx_set (rx_lt h3) _
      have hr4 : RowI (n + 1) st4 x ts := by rw [hst4]; exact hr3.set _
      have hk4 : Keeps n st3 st4 := by rw [hst4]; exact Keeps.set (Nat.le_refl _)
      have hmu := must_spec h4 (hr4.old (Nat.le_refl _)) (by omega) hs ⟨#[62]⟩ (by decide)
      rw [show (ByteArray.mk #[62]).data.toList = [62] from rfl] at hmu
      simp only [Bool.false_eq_true, if_false, ← hst3, rx_code h3, Option.bind_some, asI, if_true, d0, cond_true, hbl, ← hst4, Out.on, hmu]
      cases h62 : pre [62] (s.data.toList.drop a3) with
      | true =>
        have h5 := lx_set (rx_lt h4) (RX s (a3 + 1) x 0 0)
        obtain ⟨st', k1, k2, k3⟩ := rclose_end h5 (hr4.set _) (by omega) w a
        simp only [if_true]
        exact ⟨_, k1, k2, hk1.trans (hk2.trans (hk3.trans (hk4.trans ((Keeps.set (Nat.le_refl _)).trans k3))))⟩
      | false =>
        have h5 := lx_set (rx_lt h4) (RX s a3 x 1202 a3)
        obtain ⟨st', k1, k2, k3⟩ := rclose_end h5 (hr4.set _) (by omega) w a
        simp only [Bool.false_eq_true, if_false]
        exact ⟨_, _, _, k1, k2, hk1.trans (hk2.trans (hk3.trans (hk4.trans ((Keeps.set (Nat.le_refl _)).trans k3))))⟩
  | false =>
    have hnw := rname_spec h1 hold (by omega) hs
    simp only [cond_false, Bool.false_eq_true, if_false, nkm, fam, rx_out h1, Option.bind_some, hnw, Out.on]
    cases hb : badN (s.data.toList.drop (a + 1)) with
    | true =>
      have h3 := lx_set (rx_lt h1) (RX s (a + 1 + nm (s.data.toList.drop (a + 1))) x 1202 (a + 1))
      obtain ⟨x', st', k1, k2, k3, k4, k5⟩ := RS.add h3 (hr1.set _) (by omega) ⟨3, (s.data.toList.drop (a + 1)).take (nm (s.data.toList.drop (a + 1))), [], a⟩
      simp only [if_true, rx_out h3, Option.bind_some, L_open2, lit_tok, k1, k2]
      rw [rtag_stop k3 (by decide)]
      exact ⟨_, _, _, rfl, ⟨_, k3, k4⟩, hk1.trans ((Keeps.set (Nat.le_refl _)).trans k5)⟩
    | false =>
      obtain ⟨hpos, _, hle⟩ := badN_false hb
      rw [List.length_drop, ← size_list] at hle
      unfold open2
      obtain ⟨w, hw⟩ : ∃ w, w = (s.data.toList.drop (a + 1)).take (nm (s.data.toList.drop (a + 1))) := ⟨_, rfl⟩
      rw [← hw]
      obtain ⟨a2, ha2⟩ : ∃ a2, a2 = a + 1 + nm (s.data.toList.drop (a + 1)) := ⟨_, rfl⟩
      rw [← ha2]
      have h3 := lx_set (rx_lt h1) (RX s a2 x 0 0)
      obtain ⟨x', st', k1, k2, k3, k4, k5⟩ := RS.add h3 (hr1.set _) (by omega) ⟨3, w, [], a⟩
      simp only [Bool.false_eq_true, if_false, if_true, rx_out h3, Option.bind_some, L_open2, lit_tok, k1, k2]
      have nx := rattrs_walk hs (s.data.toList.length + 1) a2 _ _ ⟨_, k3, k4⟩ (by rw [← size_list]; omega) (by omega) (by rw [List.length_append]; simp only [List.length_cons, List.length_nil]; omega)
      cases hz : attrsM (s.data.toList.length + 1) s.data.toList a2 with
      | error e =>
        rw [hz] at nx
        obtain ⟨st'', a', ts', j1, j2, j3⟩ := nx
        exact ⟨_, _, _, j1, j2, hk1.trans ((Keeps.set (Nat.le_refl _)).trans (k5.trans j3))⟩
      | ok z =>
        rw [hz] at nx
        obtain ⟨st'', j1, j2, j3⟩ := nx
        rw [List.append_assoc] at j2
        exact ⟨_, j1, j2, hk1.trans ((Keeps.set (Nat.le_refl _)).trans (k5.trans j3))⟩

/-! ### All -/
def PL (n : Nat) (st : Sto) (ts : List Tk) (R : Except (Nat × Nat) (List Tk)) (o : Option Res) : Prop := match R with
  | .error e => ∃ st', o = some ⟨.ret (.tup [.nils, .int .i64 (e.2 : Nat), .int .i64 (e.1 : Nat)]), none, st'⟩ ∧ Keeps n st st'
  | .ok z => ∃ st' x, o = some ⟨.ret (.tup [x, .int .i64 0, .int .i64 0]), none, st'⟩ ∧ RowI (n + 1) st' x (ts ++ z) ∧ Keeps n st st'

theorem rlex_end (h : st[n]? = some (RX s a x c b)) : stencilref12_Lex.p1111100001 s n false st = if c ≠ 0 then some ⟨.ret (.tup [.nils, .int .i64 (b : Nat), .int .i64 (c : Nat)]), none, st⟩ else some ⟨.ret (.tup [x, .int .i64 0, .int .i64 0]), none, st⟩ := by
  have e : decide (((c : Nat) : Int) = 0) = decide (c = 0) := decide_eq_decide.2 ⟨fun h => by omega, fun h => by omega⟩
  rw [stencilref12_Lex.p1111100001_eq]
  simp only [cond_false, rx_code h, rx_bad h, rx_out h, Option.bind_some, asI, if_true, e]
  by_cases hc : c = 0
  · simp only [hc, decide_true, Bool.not_true, cond_false, ne_eq, not_true_eq_false, if_false]
  · simp only [hc, decide_false, Bool.not_false, cond_true, ne_eq, not_false_eq_true, if_true]
theorem rlex_stop (h : st[n]? = some (RX s a x c b)) (hc : c ≠ 0) : stencilref12_Lex.p11111000 s n st = some ⟨.ret (.tup [.nils, .int .i64 (b : Nat), .int .i64 (c : Nat)]), none, st⟩ := by
  have e : decide (((c : Nat) : Int) = 0) = false := decide_eq_false (by omega)
  have := rlex_end h
  rw [if_pos hc] at this
  rw [stencilref12_Lex.p11111000_eq]
  simp only [rx_at h, rx_code h, Option.bind_some, asI, if_true, e, this]
  cases decide (((a : Nat) : Int) < ((s.size : Nat) : Int)) <;> rfl

theorem rlex_walk (hs : s.size ≤ 65536) : ∀ (m a : Nat) (st : Sto) (ts : List Tk), RS n s st a 0 0 ts → s.size < a + m → a ≤ s.size → ts.length ≤ a →
    PL n st ts (lexM m s.data.toList a) (stencilref12_Lex.p11111000 s n st) := by
  intro m
  induction m with
  | zero => intro a st ts h h1 h2; omega
  | succ m ih =>
    intro a st ts h hm ha hts
    obtain ⟨x, h0, hr⟩ := h
    have d0 : decide (((0 : Nat) : Int) = 0) = true := rfl
    rw [stencilref12_Lex.p11111000_eq]
    simp only [rx_at h0, rx_code h0, Option.bind_some, asI, if_true, d0, lexM, ← size_list]
    by_cases hlt : a < s.size
    · have hlt' : ((a : Int) < ((s.size : Nat) : Int)) := by omega
      have hge : ¬ s.size ≤ a := by omega
      obtain ⟨ch, _, h2, h3⟩ := drop_at hlt
      have key : ∀ o : Option (Out × Sto), PV n s st ts (stepM s.data.toList a) o →
          PL n st ts (match stepM s.data.toList a with
            | .error e => .error e
            | .ok r => match lexM m s.data.toList r.2 with
              | .error e => .error e
              | .ok z => .ok (r.1 ++ z)) (o.bind fun x15 => x15.1.on (fun _ => stencilref12_Lex.p11111000 s n x15.2) (fun e17 => some ⟨.pan e17, none, x15.2⟩)) := by
        intro o hf
        cases hq : stepM s.data.toList a with
        | error e =>
          have hne := stepM_err (by rw [← size_list]; exact hlt) hq
          rw [hq] at hf
          obtain ⟨st', a', ts', k1, ⟨x', k2, k2'⟩, k3⟩ := hf
          simp only [k1, Option.bind_some, Out.on]
          rw [rlex_stop k2 (by have := hne.1; omega)]
          exact ⟨_, rfl, k3⟩
        | ok r =>
          rw [hq] at hf
          obtain ⟨st', k1, k2, k3⟩ := hf
          have e1 := step_lt (by rw [← size_list]; exact hlt) hq
          have e2 := stepM_len (by rw [← size_list]; exact hlt) hq
          rw [← size_list] at e1
          have nx := ih r.2 st' (ts ++ r.1) k2 (by omega) (by omega) (by rw [List.length_append]; omega)
          simp only [k1, Option.bind_some, Out.on]
          cases hz : lexM m s.data.toList r.2 with
          | error e =>
            rw [hz] at nx
            obtain ⟨st'', j1, j2⟩ := nx
            exact ⟨_, j1, k3.trans j2⟩
          | ok z =>
            rw [hz] at nx
            obtain ⟨st'', x', j1, j2, j3⟩ := nx
            rw [List.append_assoc] at j2
            exact ⟨_, _, j1, j2, k3.trans j3⟩
      have e60 : decide (((ch.toNat : Nat) : Int) = 60) = pre [60] (s.data.toList.drop a) := by
        rw [h3]
        simp only [pre, List.isPrefixOf, Bool.and_true]
        rw [Bool.eq_iff_iff, decide_eq_true_eq, beq_iff_eq]
        exact ⟨fun h => (UInt8.toNat_inj.1 (by show ch.toNat = 60; omega)).symm, fun h => by rw [← h]; rfl⟩
      have hi := here_spec h0 ha hs ⟨#[123, 123]⟩ (by decide)
      rw [show (ByteArray.mk #[123, 123]).data.toList = [123, 123] from rfl] at hi
      simp only [hlt', decide_true, cond_true, hge, if_false]
      rw [stencilref12_Lex.p1111100001_eq]
      simp only [cond_true, rx_at h0, Option.bind_some, Go.St.asInt, asI, idx_nat hlt, h2, e60, hi]
      cases h60 : pre [60] (s.data.toList.drop a) with
      | true =>
        have h123 : pre [123, 123] (s.data.toList.drop a) = false := by
          rw [h3] at h60 ⊢
          simp only [pre, List.isPrefixOf, Bool.and_true, beq_iff_eq] at h60
          subst h60
          rfl
        simp only [cond_true]
        refine key _ ?_
        have := rtag_walk ⟨x, h0, hr⟩ hs hts h60
        simpa only [stepM, h123, h60, if_true, Bool.false_eq_true, if_false] using this
      | false =>
        simp only [cond_false, Out.on, asB, Option.bind_some]
        cases h123 : pre [123, 123] (s.data.toList.drop a) with
        | true =>
          simp only [cond_true]
          refine key _ ?_
          have := rhole_walk ⟨x, h0, hr⟩ hs (by omega) h123
          simpa only [stepM, h123, if_true] using this
        | false =>
          simp only [cond_false]
          refine key _ ?_
          have := rtext_walk ⟨x, h0, hr⟩ hs (by omega) ha
          simpa only [stepM, h123, h60, Bool.false_eq_true, if_false] using this
    · have hlt' : ¬ ((a : Int) < ((s.size : Nat) : Int)) := by omega
      have hge : s.size ≤ a := by omega
      have := rlex_end h0
      rw [if_neg (by simp)] at this
      simp only [hlt', decide_false, cond_false, hge, if_true, this]
      exact ⟨_, _, rfl, by rw [List.append_nil]; exact hr, Keeps.refl _ _⟩
end

theorem gc_strip {v v' : AV} {st st' : Sto} (hs : v.strip st.length = v') (ho : v'.old st.length = true) (hk : Keeps st.length st st') : gc st (.ret v, st') = (.ret v', st) := by
  have hst : st'.take st.length = st := by
    apply List.ext_getElem?
    intro i
    rw [List.getElem?_take]
    split
    · rename_i hi; exact hk.at_ i hi
    · rename_i hi; rw [List.getElem?_eq_none (by omega)]
  unfold gc
  rw [if_pos ⟨by simp only [Out.val, hs]; exact ho, hk.len, fun i hi => .inl (hk.at_ i hi)⟩]
  simp only [Out.map, hs, hst]
theorem tcells_strip (m : Nat) (ts : List Tk) : strips m (tcells ts) = tcells ts := by
  induction ts with
  | nil => rfl
  | cons t r ih => simp [tcells, tcell, strips, AV.strip, ih]

/-- What a lexer gives, as three values. -/
def outT : Except (Nat × Nat) (List Tk) → List Tk
  | .error _ => []
  | .ok ts => ts
def outP : Except (Nat × Nat) (List Tk) → Nat
  | .error e => e.2
  | .ok _ => 0
def outC : Except (Nat × Nat) (List Tk) → Nat
  | .error e => e.1
  | .ok _ => 0
theorem frozen_reads (st : Sto) (ts : List Tk) : Reads st (.is (tcells ts) ts.length .no) ts := by
  refine ⟨rfl, fun j t h => ?_⟩
  have hj := (List.getElem?_eq_some_iff.1 h).1
  have hl := tcells_len ts
  have hd := tcells_at h
  have hle : (j + 1) * 4 ≤ (tcells ts).length := by omega
  refine ⟨.ip (tcell t), ?_, rfl⟩
  simp only [ia, idx_nat hj, Option.bind_some, hle, if_true, hd]
  rfl
theorem nils_reads (st : Sto) : Reads st .nils [] := ⟨rfl, fun j t h => by simp at h⟩

theorem rLex_spec {s : ByteArray} (hs : s.size < 4611686018427387904) {r : Option Nat} (h : Scan s 0 r) (st : Sto) :
    ∃ y, CallR ap 8 [.str s] st = some (.ret (.tup [y, .int .i64 (outP (lexR s r) : Nat), .int .i64 (outC (lexR s r) : Nat)]), st) ∧ ∀ st', Reads st' y (outT (lexR s r)) := by
  rw [stencilref12_Lex.call]
  unfold lexR
  by_cases hbig : 65536 < s.size
  · have e : ((65536 : Int) < ((s.size : Nat) : Int)) := by omega
    rw [if_pos hbig]
    refine ⟨.nils, ret_keep ?_ rfl rfl (Keeps.refl _ _), nils_reads⟩
    rw [stencilref12_Lex.b_eq]
    simp only [e, decide_true, cond_true]
    rfl
  · have e : ¬ ((65536 : Int) < ((s.size : Nat) : Int)) := by omega
    have hv := refValid_spec (by omega) h st
    rw [if_neg hbig]
    cases r with
    | some a =>
      refine ⟨.nils, ret_keep ?_ rfl rfl (Keeps.refl _ _), nils_reads⟩
      rw [stencilref12_Lex.b_eq]
      simp only [e, decide_false, cond_false, hv, Option.bind_some, validOut, Out.on, ext, List.getElem?_cons_zero, List.getElem?_cons_succ, asI, if_true, show decide ((300 : Int) = 0) = false from rfl, Bool.not_false, cond_true]
      rfl
    | none =>
      obtain ⟨st1, hst1⟩ : ∃ st1, st1 = st ++ [RX s 0 .nils 0 0] := ⟨_, rfl⟩
      have hag : aggA (fillA (fun i => ([(0, 1), (1, 1), (2, 1), (3, 1), (4, 1)] : List (Nat × Nat))[i]?) [.str ⟨#[]⟩, .int .i64 0, .nils, .int .i64 0, .int .i64 0] [(0, (.str s))]) = some (.agg [.str s, .int .i64 0, .nils, .int .i64 0, .int .i64 0]) := rfl
      have start : stencilref12_Lex.b s st = stencilref12_Lex.p11111000 s st.length st1 := by
        rw [stencilref12_Lex.b_eq]
        simp only [e, decide_false, cond_false, hv, Option.bind_some, validOut, Out.on, ext, List.getElem?_cons_zero, List.getElem?_cons_succ, asI, if_true, show decide ((0 : Int) = 0) = true from rfl, Bool.not_true, hag]
        simp only [AV.cells, show ([AV.str s, AV.int .i64 0, AV.nils, AV.int .i64 0, AV.int .i64 0].all AV.isCell) = true from rfl, if_true]
        rw [hst1]
        rfl
      have hk0 : Keeps st.length st st1 := by rw [hst1]; exact Keeps.app (Nat.le_refl _)
      have h1 : RS st.length s st1 0 0 0 [] := ⟨.nils, by rw [hst1]; simp, .inl ⟨rfl, rfl⟩⟩
      have hw := rlex_walk (by omega) (s.size + 1) 0 st1 [] h1 (by omega) (Nat.zero_le _) (by simp)
      simp only
      generalize lexM (s.size + 1) s.data.toList 0 = R at hw ⊢
      cases R with
      | error e1 =>
        obtain ⟨st', k1, k2⟩ := hw
        refine ⟨.nils, ret_keep (st' := st') ?_ rfl rfl (hk0.trans k2), nils_reads⟩
        rw [start, k1]
        rfl
      | ok z =>
        obtain ⟨st', x, k1, k2, k3⟩ := hw
        rw [List.nil_append] at k2
        rw [start, k1]
        simp only [Option.bind_some]
        rcases k2 with ⟨rfl, rfl⟩ | ⟨i, g, j1, rfl, j3⟩
        · exact ⟨.nils, congrArg some (gc_strip rfl rfl (hk0.trans k3)), nils_reads⟩
        · refine ⟨.is (tcells z) z.length .no, congrArg some (gc_strip ?_ ?_ (hk0.trans k3)), fun st' => frozen_reads st' z⟩
          · show AV.tup (strips st.length [.is (tcells z) z.length (.tip i g 4), .int .i64 0, .int .i64 0]) = _
            have : ¬ i < st.length := by omega
            simp only [strips, AV.strip, tcells_strip, Tok.strip, this, if_false, outP, outC]
            rfl
          · simp [AV.old, olds, tcells_old, Tok.old]

/-! ### What is spoiled -/
theorem olds_set {m : Nat} {l : List AV} (h : olds m l = true) (k : Nat) {v : AV} (hv : v.old m = true) : olds m (l.set k v) = true := by
  induction l generalizing k with
  | nil => rfl
  | cons c r ih =>
    simp only [olds, Bool.and_eq_true] at h
    cases k with
    | zero => simp only [List.set_cons_zero, olds, Bool.and_eq_true]; exact ⟨hv, h.2⟩
    | succ k => simp only [List.set_cons_succ, olds, Bool.and_eq_true]; exact ⟨h.1, ih h.2 k⟩
theorem spoil_loop {id g len : Nat} (hlen : len ≤ 1000000) : ∀ (m j : Nat), j + m = len → ∀ (st : Sto) (cs : List AV), st[id]? = some (.cells g cs 0) → cs.length = len * 4 → (∀ k, olds k cs = true) → (∀ i, j ≤ i → i < len → ∃ v, cs[i * 4 + 3]? = some (.int .i64 v)) →
    ∃ cs', stencillaw0_SpoilTokens.p100 (.ms id g 0 len 4) ((j : Nat) : Int) st = some ⟨.ret (.tup []), none, st.set id (.cells g cs' 0)⟩ ∧ ∀ k, olds k cs' = true := by
  intro m
  induction m with
  | zero =>
    intro j hj st cs h hl ho hv
    have e : ¬ (((j : Nat) : Int) < ((len : Nat) : Int)) := by omega
    refine ⟨cs, ?_, ho⟩
    rw [stencillaw0_SpoilTokens.p100_eq]
    simp only [lenL, Option.bind_some, e, decide_false, cond_false, set_same h]
  | succ m ih =>
    intro j hj st cs h hl ho hv
    have e : (((j : Nat) : Int) < ((len : Nat) : Int)) := by omega
    obtain ⟨v, hv1⟩ := hv j (Nat.le_refl _) (by omega)
    have hia : ia 4 (.ms id g 0 len 4) (.int .i64 ((j : Nat) : Int)) = some (.mp id g (0 + j * 4)) := by
      simp only [ia, if_true, idx_nat (show j < len by omega), Option.bind_some]
    have hfa : fa 3 1 (.mp id g (0 + j * 4)) = some (.mp id g (0 + j * 4 + 3)) := rfl
    rw [Nat.zero_add] at hia hfa
    have hld : ld false 1 st (.mp id g (j * 4 + 3)) = some (.int .i64 v) := m_get h hv1
    have hst := sto_at (x := .int .i64 (IntKind.wrap .i64 (-9 - v))) h (show j * 4 + 3 < cs.length by omega) rfl rfl
    have hw : IntKind.wrap .i64 (((j : Nat) : Int) + 1) = ((j + 1 : Nat) : Int) := w64 _ (by omega) (by omega)
    have hlt := (List.getElem?_eq_some_iff.1 h).1
    obtain ⟨cs', k1, k2⟩ := ih (j + 1) (by omega) (st.set id (.cells g (cs.set (j * 4 + 3) (.int .i64 (IntKind.wrap .i64 (-9 - v)))) 0)) _ (List.getElem?_set_self hlt) (by rw [List.length_set]; exact hl) (fun k => olds_set (ho k) _ rfl) (fun i hi hi2 => by
      obtain ⟨u, hu⟩ := hv i (by omega) hi2
      exact ⟨u, by rw [List.getElem?_set_ne (by omega), hu]⟩)
    refine ⟨cs', ?_, k2⟩
    rw [stencillaw0_SpoilTokens.p100_eq]
    simp only [lenL, Option.bind_some, e, decide_true, cond_true, hia, hfa, hld, asI, if_true, hst, hw, k1, List.set_set]
theorem tcells_int {ts : List Tk} {i : Nat} (h : i < ts.length) : ∃ v, (tcells ts)[i * 4 + 3]? = some (.int .i64 v) := by
  have hd := tcells_at (List.getElem?_eq_getElem h)
  have := congrArg (fun l : List AV => l[3]?) hd
  simp only [List.getElem?_drop] at this
  exact ⟨_, by rw [this]; rfl⟩
theorem spoil_spec {n : Nat} {st : Sto} {x : AV} {ts : List Tk} (h : Row n st x ts) (hts : ts.length ≤ 1000000) :
    ∃ st', CallR ap 11 [x] st = some (.ret (.tup []), st') ∧ st.length ≤ st'.length ∧ ∀ i, (∀ id g l, x = .ms id g 0 l 4 → i ≠ id) → st'[i]? = st[i]? := by
  rw [stencillaw0_SpoilTokens.call, stencillaw0_SpoilTokens.b_eq]
  rcases h with ⟨rfl, rfl⟩ | ⟨id, g, h1, rfl, h3⟩
  · refine ⟨st, ret_keep ?_ rfl rfl (Keeps.refl _ _), Nat.le_refl _, fun i _ => rfl⟩
    rw [stencillaw0_SpoilTokens.p100_eq]
    rfl
  · obtain ⟨cs', k1, k2⟩ := spoil_loop (id := id) (g := g) hts ts.length 0 (by omega) st _ h3 (tcells_len ts) (fun k => tcells_old k ts) (fun i _ hi => tcells_int hi)
    refine ⟨st.set id (.cells g cs' 0), ret_set0 k1 rfl rfl (by simp [Ob.old, k2]), by simp, fun i hi => ?_⟩
    rw [List.getElem?_set_ne (Ne.symm (hi id g _ rfl))]

theorem lex_out {s : ByteArray} (hs : s.size < 4611686018427387904) {r : Option Nat} (h : Scan s 0 r) (st : Sto) :
    ∃ x st', CallR ap 7 [.str s] st = some (.ret (.tup [x, .int .i64 (outP (lexR s r) : Nat), .int .i64 (outC (lexR s r) : Nat)]), st') ∧ Row st.length st' x (outT (lexR s r)) ∧ Keeps st.length st st' := by
  have := lex_spec hs h st
  cases hr : lexR s r with
  | error e =>
    rw [hr] at this
    exact ⟨.nils, st, this, .inl ⟨rfl, rfl⟩, Keeps.refl _ _⟩
  | ok ts =>
    rw [hr] at this
    obtain ⟨x, st', k1, k2, k3⟩ := this
    exact ⟨x, st', k1, k2, k3⟩
end Go.Proofs.YtigdijdpggjpiaaDoor
