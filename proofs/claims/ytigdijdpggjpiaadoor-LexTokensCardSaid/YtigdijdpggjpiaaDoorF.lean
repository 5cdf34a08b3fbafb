/- The document's lexer: texts, holes, attributes. -/
import Derived.Test.YtigdijdpggjpiaaDoorN
namespace Go.Proofs.YtigdijdpggjpiaaDoor
open Go.St Go.Lib
set_option linter.unusedVariables false
set_option linter.unusedSimpArgs false

theorem tcells_old (m : Nat) (ts : List Tk) : olds m (tcells ts) = true := by
  induction ts with
  | nil => rfl
  | cons t r ih => simp [tcells, tcell, olds, AV.old, ih]
theorem tcells_cell (ts : List Tk) : (tcells ts).all AV.isCell = true := by
  induction ts with
  | nil => rfl
  | cons t r ih => simp [tcells, tcell, AV.isCell, ih]

/-- A row of tokens that is made by appends alone. -/
def RowI (n : Nat) (st : Sto) (x : AV) (ts : List Tk) : Prop := (x = .nils ∧ ts = []) ∨ ∃ i g, n ≤ i ∧ x = .is (tcells ts) ts.length (.tip i g 4) ∧ st[i]? = some (.tip g)
theorem RowI.old {n : Nat} {st : Sto} {x : AV} {ts : List Tk} (h : RowI n st x ts) {m : Nat} (hm : st.length ≤ m) : x.old m = true := by
  rcases h with ⟨rfl, _⟩ | ⟨i, g, _, rfl, h3⟩
  · rfl
  · have := (List.getElem?_eq_some_iff.1 h3).1
    simp [AV.old, tcells_old, Tok.old]
    omega
theorem RowI.cell {n : Nat} {st : Sto} {x : AV} {ts : List Tk} (h : RowI n st x ts) : x.isCell = true := by
  rcases h with ⟨rfl, _⟩ | ⟨i, g, _, rfl, h3⟩ <;> rfl
theorem RowI.keep {n : Nat} {st st' : Sto} {x : AV} {ts : List Tk} (h : RowI n st x ts) (hk : ∀ i, n ≤ i → i < st.length → st'[i]? = st[i]?) : RowI n st' x ts := by
  rcases h with h | ⟨i, g, h1, h2, h3⟩
  · exact .inl h
  · exact .inr ⟨i, g, h1, h2, by rw [hk i h1 (List.getElem?_eq_some_iff.1 h3).1, h3]⟩
theorem RowI.add {n : Nat} {st : Sto} {x : AV} {ts : List Tk} (h : RowI n st x ts) (hn : n ≤ st.length) (hts : ts.length ≤ 1000000) (t : Tk) :
    ∃ x' st', appL false false 4 48 x (.is (tcell t) 1 .full) st = some (x', st') ∧ RowI n st' x' (ts ++ [t]) ∧ Keeps n st st' := by
  have hroom : room 48 (ts.length + 1) = true := decide_eq_true (by omega)
  have hroom1 : room 48 1 = true := by decide
  rcases h with ⟨rfl, rfl⟩ | ⟨i, g, h1, rfl, h3⟩
  · refine ⟨.is (tcell t) 1 (.tip st.length 0 4), st ++ [.tip 0], ?_, .inr ⟨st.length, 0, hn, by simp [tcells], by simp⟩, Keeps.app hn⟩
    simp only [appL, tail_tok, Option.bind_some, hroom1, if_true, show ¬ (1 = 0) by decide, if_false, Bool.false_eq_true]
  · have hl := tcells_len ts
    refine ⟨.is (tcells ts ++ tcell t) (ts.length + 1) (.tip i (g + 1) 4), st.set i (.tip (g + 1)), ?_, .inr ⟨i, g + 1, h1, by rw [tcells_app]; simp [tcells], ?_⟩, Keeps.set h1⟩
    · simp only [appL, tail_tok, Option.bind_some, hl, true_and, hroom, if_true, h3]
    · rw [List.getElem?_set_self (List.getElem?_eq_some_iff.1 h3).1]
def RS (n : Nat) (s : ByteArray) (st : Sto) (a c b : Nat) (ts : List Tk) : Prop := ∃ x, st[n]? = some (RX s a x c b) ∧ RowI (n + 1) st x ts

section
variable {n : Nat} {s : ByteArray} {st : Sto} {a c b : Nat} {ts : List Tk} {x : AV}
theorem RowI.set (h : RowI (n + 1) st x ts) (o : Ob) : RowI (n + 1) (st.set n o) x ts := h.keep fun i h1 h2 => by rw [List.getElem?_set_ne (by omega)]
theorem RowI.app {l : Sto} (h : RowI (n + 1) st x ts) : RowI (n + 1) (st ++ l) x ts := h.keep fun i h1 h2 => List.getElem?_append_left h2
theorem RS.mk' (h : st[n]? = some (RX s a x c b)) (hr : RowI (n + 1) st x ts) (a' c' b' : Nat) : RS n s (st.set n (RX s a' x c' b')) a' c' b' ts := ⟨x, lx_set (rx_lt h) _, hr.set _⟩

/-- A token, appended to what came out. -/
theorem RS.add (h : st[n]? = some (RX s a x c b)) (hr : RowI (n + 1) st x ts) (hts : ts.length ≤ 1000000) (t : Tk) :
    ∃ x' st', appL false false 4 48 x (.is (tcell t) 1 .full) st = some (x', st') ∧ sto 1 st' (.mp n 0 2) x' = some (st'.set n (RX s a x' c b)) ∧ (st'.set n (RX s a x' c b))[n]? = some (RX s a x' c b) ∧ RowI (n + 1) (st'.set n (RX s a x' c b)) x' (ts ++ [t]) ∧ Keeps n st (st'.set n (RX s a x' c b)) := by
  have hn := rx_lt h
  obtain ⟨x', st', h1, h2, h3⟩ := hr.add (by omega) hts t
  have hat : st'[n]? = some (RX s a x c b) := by rw [h3.at_ n (by omega), h]
  exact ⟨x', st', h1, rx_sout hat h2.cell, lx_set (rx_lt hat) _, h2.set _, (keeps_down h3 (by omega)).trans (Keeps.set (Nat.le_refl _))⟩

theorem RS.gc {st' : Sto} {a' c' b' : Nat} {ts' : List Tk} {v : AV} (h : RS n s st a c b ts) (h' : RS n s st' a' c' b' ts') (hk : Keeps n st st') (hs : v.strip st.length = v) :
    ∃ st'', gc st (.ret v, st') = (.ret v, st'') ∧ RS n s st'' a' c' b' ts' ∧ Keeps n st st'' := by
  unfold Go.St.gc
  split
  · rename_i hc
    obtain ⟨_, h1, h2⟩ := hc
    have h1 : st.length ≤ st'.length := h1
    obtain ⟨x0, m1, m2⟩ := h
    obtain ⟨x1, k1, k2⟩ := h'
    have hn := rx_lt m1
    refine ⟨st'.take st.length, by simp only [Out.map, hs], ⟨x1, by rw [List.getElem?_take, if_pos hn, k1], ?_⟩, ?_⟩
    · rcases k2 with k2 | ⟨i, g, k3, k4, k5⟩
      · exact .inl k2
      · refine .inr ⟨i, g, k3, k4, ?_⟩
        have hi : i < st.length := by
          rcases h2 n hn with h2 | ⟨o, h3, h4⟩
          · rw [k1, m1] at h2
            have h2 := (Option.some.inj h2)
            have e : x1 = x0 := by
              unfold RX at h2
              injection h2 with _ h2 _
              injection h2 with _ h2
              injection h2 with _ h2
              injection h2
            subst e
            rcases m2 with ⟨m2, _⟩ | ⟨i', g', m3, m4, m5⟩
            · rw [k4] at m2
              cases m2
            · rw [k4] at m4
              injection m4 with _ _ m4
              injection m4 with m4 _ _
              subst m4
              exact (List.getElem?_eq_some_iff.1 m5).1
          · rw [k1] at h3
            cases h3
            have := h4
            rw [k4] at this
            simp [RX, Ob.old, olds, AV.old, Tok.old] at this
            exact this.2
        rw [List.getElem?_take, if_pos hi, k5]
    · exact ⟨by rw [List.length_take]; omega, fun i hi => by rw [List.getElem?_take, if_pos (by omega)]; exact hk.at_ i hi⟩
  · exact ⟨st', rfl, h', hk⟩

def PVB (n : Nat) (s : ByteArray) (st : Sto) (ts : List Tk) (R : LR) (o : Option Res) : Prop := match R with
  | .error e => ∃ st' a' ts', o = some ⟨.ret (.tup []), none, st'⟩ ∧ RS n s st' a' e.1 e.2 ts' ∧ Keeps n st st'
  | .ok r => ∃ st', o = some ⟨.ret (.tup []), none, st'⟩ ∧ RS n s st' r.2 0 0 (ts ++ r.1) ∧ Keeps n st st'
def PV (n : Nat) (s : ByteArray) (st : Sto) (ts : List Tk) (R : LR) (o : Option (Out × Sto)) : Prop := match R with
  | .error e => ∃ st' a' ts', o = some (.ret (.tup []), st') ∧ RS n s st' a' e.1 e.2 ts' ∧ Keeps n st st'
  | .ok r => ∃ st', o = some (.ret (.tup []), st') ∧ RS n s st' r.2 0 0 (ts ++ r.1) ∧ Keeps n st st'
theorem pv_of (h : RS n s st a c b ts) {R : LR} {o : Option Res} (hp : PVB n s st ts R o) :
    PV n s st ts R (o.bind fun r => some (gc st (r.out, r.st))) := by
  cases R with
  | error e =>
    obtain ⟨st', a', ts', h1, h2, h3⟩ := hp
    obtain ⟨st'', k1, k2, k3⟩ := h.gc h2 h3 (v := .tup []) rfl
    exact ⟨st'', a', ts', by rw [h1]; simp only [Option.bind_some, k1], k2, k3⟩
  | ok r =>
    obtain ⟨st', h1, h2, h3⟩ := hp
    obtain ⟨st'', k1, k2, k3⟩ := h.gc h2 h3 (v := .tup []) rfl
    exact ⟨st'', by rw [h1]; simp only [Option.bind_some, k1], k2, k3⟩

/-! ### Texts -/
theorem rtext_loop (hs : s.size ≤ 65536) (from_ : Nat) : ∀ (m a : Nat), a + m = s.size → ∀ st : Sto, st[n]? = some (RX s a x c b) →
    stencilref12_lexer_text.p1000 (.mp n 0 0) (.int .i64 (from_ : Nat)) st = stencilref12_lexer_text.p100001 (.mp n 0 0) (.int .i64 (from_ : Nat)) false (st.set n (RX s (a + txN (s.data.toList.drop a)) x c b)) := by
  intro m
  induction m with
  | zero =>
    intro a hm st h
    have hlt : ¬ ((a : Int) < ((s.size : Nat) : Int)) := by omega
    rw [stencilref12_lexer_text.p1000_eq]
    simp only [nkm, fam, rx_s h, rx_at h, Option.bind_some, asS, asI, if_true, hlt, decide_false, cond_false]
    rw [drop_out (by omega)]
    simp only [txN, Nat.add_zero, set_same h]
  | succ m ih =>
    intro a hm st h
    have hlt : ((a : Int) < ((s.size : Nat) : Int)) := by omega
    have hlt' : a < s.size := by omega
    obtain ⟨ch, _, h2, h3⟩ := drop_at hlt'
    have hw : IntKind.wrap .i64 ((a : Int) + 1) = ((a + 1 : Nat) : Int) := w64 _ (by omega) (by omega)
    have h' := lx_set (rx_lt h) (RX s (a + 1) x c b)
    have nxt := ih (a + 1) (by omega) _ h'
    rw [List.set_set] at nxt
    have hh := here_spec h (by omega) hs ⟨#[123, 123]⟩ (by decide)
    rw [show (ByteArray.mk #[123, 123]).data.toList = [123, 123] from rfl] at hh
    have e60 : decide (((ch.toNat : Nat) : Int) = 60) = decide (ch = 60) := by
      refine decide_eq_decide.2 ⟨fun h => UInt8.toNat_inj.1 (by show ch.toNat = 60; omega), fun h => by rw [h]; rfl⟩
    rw [stencilref12_lexer_text.p1000_eq]
    simp only [nkm, fam, rx_s h, rx_at h, Option.bind_some, asS, asI, Go.St.asInt, asB, if_true, hlt, decide_true, cond_true, idx_nat hlt', h2, e60, hh, Out.on]
    rw [h3]
    simp only [txN]
    by_cases hc : ch = 60
    · simp only [hc, decide_true, Bool.not_true, cond_false, true_or, if_true, Nat.add_zero, set_same h]
    · cases hp : pre [123, 123] (ch :: s.data.toList.drop (a + 1)) with
      | true => simp only [hc, decide_false, Bool.not_false, cond_true, Bool.not_true, or_true, if_true, Nat.add_zero, set_same h]
      | false =>
        simp only [hc, decide_false, Bool.not_false, cond_true, false_or, Bool.false_eq_true, if_false]
        rw [stencilref12_lexer_text.p100001_eq]
        simp only [cond_true, nkm, fam, rx_at h, Option.bind_some, asI, if_true, hw, rx_sat h, nxt]
        rw [show a + 1 + txN (s.data.toList.drop (a + 1)) = a + (txN (s.data.toList.drop (a + 1)) + 1) by omega]

theorem rtext_walk (h : RS n s st a 0 0 ts) (hs : s.size ≤ 65536) (hts : ts.length ≤ 1000000) (ha : a ≤ s.size) :
    PV n s st ts (textM s.data.toList a) (CallR ap 22 [.mp n 0 0] st) := by
  rw [stencilref12_lexer_text.call]
  refine pv_of h ?_
  obtain ⟨x, h0, hr⟩ := h
  have ht := txN_le (s.data.toList.drop a)
  rw [drop_len] at ht
  have loop := rtext_loop hs a (s.size - a) a (by omega) st h0
  obtain ⟨a1, ha1⟩ : ∃ a1, a1 = a + txN (s.data.toList.drop a) := ⟨_, rfl⟩
  unfold textM
  rw [show txN (s.data.toList.drop a) = a1 - a by omega]
  rw [← ha1] at loop
  obtain ⟨st1, hst1⟩ : ∃ st1, st1 = st.set n (RX s a1 x 0 0) := ⟨_, rfl⟩
  rw [← hst1] at loop
  have h1 : st1[n]? = some (RX s a1 x 0 0) := by rw [hst1]; exact lx_set (rx_lt h0) _
  have hr1 : RowI (n + 1) st1 x ts := by rw [hst1]; exact hr.set _
  have hk1 : Keeps n st st1 := by rw [hst1]; exact Keeps.set (Nat.le_refl _)
  have b1 : bnd s.size s.size (some (.int .i64 ((a1 : Nat) : Int))) = some a1 := bnd_int (by omega)
  have b2 : bnd 0 a1 (some (.int .i64 ((a : Nat) : Int))) = some a := bnd_int (by omega)
  obtain ⟨y, p1, p2⟩ := rplain_spec h1 (hr1.old (Nat.le_refl _)) a (by omega) (ByteArray.extract s a a1) (by rw [ext_sz s a a1 (by omega) (by omega)]; omega) a false
  rw [ext_list] at p1 p2
  have hag : aggA (fillA (fun i => ([(0, 1), (1, 1), (2, 1), (3, 1)] : List (Nat × Nat))[i]?) [.int .i64 0, .str ⟨#[]⟩, .str ⟨#[]⟩, .int .i64 0] [(0, (.int .i64 1)), (2, .str (mk y)), (3, .int .i64 ((a : Nat) : Int))]) = some (.agg (tcell ⟨1, [], y, a⟩)) := rfl
  have start : stencilref12_lexer_text.b (.mp n 0 0) st = stencilref12_lexer_text.p100001 (.mp n 0 0) (.int .i64 (a : Nat)) false st1 := by
    rw [stencilref12_lexer_text.b_eq]
    simp only [nkm, fam, rx_at h0, Option.bind_some, loop]
  rw [start, stencilref12_lexer_text.p100001_eq]
  simp only [cond_false, nkm, fam, rx_at h1, rx_s h1, Option.bind_some, asS, b1, b2]
  rw [show (AV.bool true) = .bool (!false) from rfl, p1]
  cases hpl : plM ((s.data.toList.drop a).take (a1 - a)) a a false with
  | error e =>
    have h2 := lx_set (rx_lt h1) (RX s a1 x e.1 e.2)
    obtain ⟨x', st', k1, k2, k3, k4, k5⟩ := RS.add h2 (hr1.set _) hts ⟨1, [], y, a⟩
    simp only [Option.bind_some, Out.on, rx_out h2, hag, lit_tok, k1, k2, nkm, fam]
    exact ⟨_, _, _, rfl, ⟨_, k3, k4⟩, hk1.trans ((Keeps.set (Nat.le_refl _)).trans k5)⟩
  | ok z =>
    have hyz := p2 z hpl
    subst hyz
    obtain ⟨x', st', k1, k2, k3, k4, k5⟩ := RS.add h1 hr1 hts ⟨1, [], y, a⟩
    simp only [Option.bind_some, Out.on, rx_out h1, hag, lit_tok, k1, k2, nkm, fam]
    exact ⟨_, rfl, ⟨_, by rw [show a + (a1 - a) = a1 by omega]; exact k3, k4⟩, hk1.trans k5⟩

/-! ### Holes -/
theorem rhole_loop (hs : s.size ≤ 65536) (y : AV) : ∀ (m a : Nat), a + m = s.size → ∀ st : Sto, st[n]? = some (RX s a x c b) →
    stencilref12_lexer_hole.p11000 (.mp n 0 0) y st = stencilref12_lexer_hole.p1100001 (.mp n 0 0) y false (st.set n (RX s (a + ixN (s.data.toList.drop a) [125, 125]) x c b)) := by
  intro m
  induction m with
  | zero =>
    intro a hm st h
    have hlt : ¬ ((a : Int) < ((s.size : Nat) : Int)) := by omega
    rw [stencilref12_lexer_hole.p11000_eq]
    simp only [nkm, fam, rx_s h, rx_at h, Option.bind_some, asS, asI, if_true, hlt, decide_false, cond_false]
    rw [drop_out (by omega), show ixN [] [125, 125] = 0 from rfl, Nat.add_zero, set_same h]
  | succ m ih =>
    intro a hm st h
    have hlt : ((a : Int) < ((s.size : Nat) : Int)) := by omega
    have hlt' : a < s.size := by omega
    obtain ⟨ch, _, h2, h3⟩ := drop_at hlt'
    have hw : IntKind.wrap .i64 ((a : Int) + 1) = ((a + 1 : Nat) : Int) := w64 _ (by omega) (by omega)
    have h' := lx_set (rx_lt h) (RX s (a + 1) x c b)
    have nxt := ih (a + 1) (by omega) _ h'
    rw [List.set_set] at nxt
    have hh := here_spec h (by omega) hs ⟨#[125, 125]⟩ (by decide)
    rw [show (ByteArray.mk #[125, 125]).data.toList = [125, 125] from rfl] at hh
    rw [stencilref12_lexer_hole.p11000_eq]
    simp only [nkm, fam, rx_s h, rx_at h, Option.bind_some, asS, asI, asB, if_true, hlt, decide_true, cond_true, hh, Out.on]
    rw [h3, ixN_cons _ _ _ (by simp)]
    cases hp : pre [125, 125] (ch :: s.data.toList.drop (a + 1)) with
    | true => simp only [Bool.not_true, if_true, Nat.add_zero, set_same h]
    | false =>
      simp only [Bool.not_false, Bool.false_eq_true, if_false]
      rw [stencilref12_lexer_hole.p1100001_eq]
      simp only [cond_true, nkm, fam, rx_at h, Option.bind_some, asI, if_true, hw, rx_sat h, nxt]
      rw [show a + 1 + ixN (s.data.toList.drop (a + 1)) [125, 125] = a + (ixN (s.data.toList.drop (a + 1)) [125, 125] + 1) by omega]

theorem rhole_walk (h : RS n s st a 0 0 ts) (hs : s.size ≤ 65536) (hts : ts.length ≤ 1000000) (hp : pre [123, 123] (s.data.toList.drop a) = true) :
    PV n s st ts (holeM s.data.toList a) (CallR ap 21 [.mp n 0 0] st) := by
  rw [stencilref12_lexer_hole.call]
  refine pv_of h ?_
  obtain ⟨x, h0, hr⟩ := h
  have ha := pre_drop hp
  simp only [List.length_cons, List.length_nil, ← size_list, List.cons_ne_nil, or_false] at ha
  have hw2 : IntKind.wrap .i64 (((a : Nat) : Int) + 2) = ((a + 2 : Nat) : Int) := w64 _ (by omega) (by omega)
  have h0' := lx_set (rx_lt h0) (RX s (a + 2) x 0 0)
  have loop := rhole_loop hs (.int .i64 (a : Nat)) (s.size - (a + 2)) (a + 2) (by omega) _ h0'
  rw [List.set_set] at loop
  have hle := ixN_le (s.data.toList.drop (a + 2)) [125, 125] (by simp)
  rw [drop_len] at hle
  obtain ⟨a1, ha1⟩ : ∃ a1, a1 = a + 2 + ixN (s.data.toList.drop (a + 2)) [125, 125] := ⟨_, rfl⟩
  rw [← ha1] at loop
  obtain ⟨st1, hst1⟩ : ∃ st1, st1 = st.set n (RX s a1 x 0 0) := ⟨_, rfl⟩
  rw [← hst1] at loop
  have h1 : st1[n]? = some (RX s a1 x 0 0) := by rw [hst1]; exact lx_set (rx_lt h0) _
  have hr1 : RowI (n + 1) st1 x ts := by rw [hst1]; exact hr.set _
  have hk1 : Keeps n st st1 := by rw [hst1]; exact Keeps.set (Nat.le_refl _)
  have start : stencilref12_lexer_hole.b (.mp n 0 0) st = stencilref12_lexer_hole.p1100001 (.mp n 0 0) (.int .i64 (a : Nat)) false st1 := by
    rw [stencilref12_lexer_hole.b_eq]
    simp only [nkm, fam, rx_at h0, Option.bind_some, asI, if_true, hw2, rx_sat h0, loop]
  rw [start, stencilref12_lexer_hole.p1100001_eq]
  have hfl := rfail_spec h1 (hr1.old (Nat.le_refl _)) 1205 a
  unfold holeM
  have hix := @index_lt (s.data.toList.drop (a + 2)) [125, 125]
  unfold ixN at ha1
  rw [drop_len] at ha1 hix
  obtain ⟨i, hi⟩ : ∃ i, i = Lib.index (s.data.toList.drop (a + 2)) [125, 125] := ⟨_, rfl⟩
  rw [← hi] at ha1 hix ⊢
  by_cases hneg : i < 0
  · rw [if_pos hneg] at ha1
    have e : (((s.size : Nat) : Int) ≤ ((a1 : Nat) : Int)) := by omega
    simp only [cond_false, nkm, fam, rx_at h1, rx_s h1, Option.bind_some, asI, asS, if_true, e, decide_true, cond_true, hneg]
    rw [show ((1205 : Int)) = ((1205 : Nat) : Int) from rfl, hfl]
    exact ⟨_, _, _, rfl, RS.mk' h1 hr1 _ _ _, hk1.trans (Keeps.set (Nat.le_refl _))⟩
  · rw [if_neg hneg] at ha1
    have hl := hix hneg
    simp only [List.length_cons, List.length_nil] at hl
    have e : ¬ (((s.size : Nat) : Int) ≤ ((a1 : Nat) : Int)) := by omega
    have b1 : bnd s.size s.size (some (.int .i64 ((a1 : Nat) : Int))) = some a1 := bnd_int (by omega)
    have b2 : bnd 0 a1 (some (.int .i64 ((a + 2 : Nat) : Int))) = some (a + 2) := bnd_int (by omega)
    have ex : ByteArray.extract s (a + 2) a1 = mk ((s.data.toList.drop (a + 2)).take i.toNat) := by
      rw [← mk_data (ByteArray.extract s (a + 2) a1), ext_list, show a1 - (a + 2) = i.toNat by omega]
    have hag : aggA (fillA (fun i => ([(0, 1), (1, 1), (2, 1), (3, 1)] : List (Nat × Nat))[i]?) [.int .i64 0, .str ⟨#[]⟩, .str ⟨#[]⟩, .int .i64 0] [(0, (.int .i64 2)), (2, .str (mk ((s.data.toList.drop (a + 2)).take i.toNat))), (3, .int .i64 ((a : Nat) : Int))]) = some (.agg (tcell ⟨2, [], (s.data.toList.drop (a + 2)).take i.toNat, a⟩)) := rfl
    have hw4 : IntKind.wrap .i64 (((a1 : Nat) : Int) + 2) = ((a + i.toNat + 4 : Nat) : Int) := w64 _ (by omega) (by omega)
    obtain ⟨x', st', k1, k2, k3, k4, k5⟩ := RS.add h1 hr1 hts ⟨2, [], (s.data.toList.drop (a + 2)).take i.toNat, a⟩
    simp only [cond_false, nkm, fam, rx_at h1, rx_s h1, rx_out h1, Option.bind_some, asI, asS, if_true, e, decide_false, hneg, if_false, hw2, b1, b2, ex, hag, lit_tok, k1, k2, rx_at k3, hw4, rx_sat k3]
    exact ⟨_, rfl, RS.mk' k3 k4 _ _ _, hk1.trans (k5.trans (Keeps.set (Nat.le_refl _)))⟩
end
end Go.Proofs.YtigdijdpggjpiaaDoor
