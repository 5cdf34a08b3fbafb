/- The document's lexer: attributes, tags, all. -/
import Derived.Test.YtigdijdpggjpiaaDoorF
import Derived.Test.YtigdijdpggjpiaaDoorT
namespace Go.Proofs.YtigdijdpggjpiaaDoor
open Go.St Go.Lib
set_option linter.unusedVariables false
set_option linter.unusedSimpArgs false

/-- The state with a token under way behind it. -/
def rk (st : Sto) (n : Nat) (s : ByteArray) (a : Nat) (x : AV) (c b : Nat) (t : Tk) : Sto := st.set n (RX s a x c b) ++ [.cells 0 (tcell t) 0]
section
variable {st : Sto} {n : Nat} {s : ByteArray} {a c b : Nat} {x : AV} {t : Tk} {ts : List Tk}
theorem rk_len : (rk st n s a x c b t).length = st.length + 1 := by simp [rk]
theorem rk_lx (hn : n < st.length) : (rk st n s a x c b t)[n]? = some (RX s a x c b) := app_at (lx_set hn _)
theorem rk_set (hn : n < st.length) (a' c' b' : Nat) : (rk st n s a x c b t).set n (RX s a' x c' b') = rk st n s a' x c' b' t := by
  unfold rk
  rw [List.set_append_left _ _ (by simpa using hn), List.set_set]
theorem rk_at : (rk st n s a x c b t)[st.length]? = some (.cells 0 (tcell t) 0) := by
  unfold rk
  rw [List.getElem?_append_right (by simp)]
  simp
theorem rk_put (cs : List AV) : (rk st n s a x c b t).set st.length (.cells 0 cs 0) = st.set n (RX s a x c b) ++ [.cells 0 cs 0] := by
  unfold rk
  rw [List.set_append_right _ _ (by simp)]
  simp
theorem rk_kind : ld false 1 (rk st n s a x c b t) (.mp st.length 0 0) = some (.int .i64 (t.kind : Nat)) := m_get (cs := tcell t) (n := 0) rk_at rfl
theorem rk_all : ld true 4 (rk st n s a x c b t) (.mp st.length 0 0) = some (.agg (tcell t)) := m_all (cs := tcell t) rk_at rfl
theorem rk_skind (k : Nat) : sto 1 (rk st n s a x c b t) (.mp st.length 0 0) (.int .i64 (k : Nat)) = some (rk st n s a x c b ⟨k, t.name, t.text, t.at_⟩) := by
  rw [sto_at rk_at (show 0 < 4 by decide) rfl rfl, rk_put]; rfl
theorem rk_sname (w : List UInt8) : sto 1 (rk st n s a x c b t) (.mp st.length 0 1) (.str (mk w)) = some (rk st n s a x c b ⟨t.kind, w, t.text, t.at_⟩) := by
  rw [sto_at rk_at (show 1 < 4 by decide) rfl rfl, rk_put]; rfl
theorem rk_stext (w : List UInt8) : sto 1 (rk st n s a x c b t) (.mp st.length 0 2) (.str (mk w)) = some (rk st n s a x c b ⟨t.kind, t.name, w, t.at_⟩) := by
  rw [sto_at rk_at (show 2 < 4 by decide) rfl rfl, rk_put]; rfl
theorem rk_new (h : st[n]? = some (RX s a x c b)) : sto 4 (st ++ [Ob.cells 0 [.int .i64 0, .str ⟨#[]⟩, .str ⟨#[]⟩, .int .i64 0] 0]) (.mp st.length 0 0) (.agg (tcell t)) = some (rk st n s a x c b t) := by
  unfold rk
  rw [set_same h]
  exact sto_new (cs := [.int .i64 0, .str ⟨#[]⟩, .str ⟨#[]⟩, .int .i64 0]) (cs' := tcell t) rfl rfl rfl
theorem rk_row (hr : RowI (n + 1) st x ts) : RowI (n + 1) (rk st n s a x c b t) x ts := (hr.set _).app
theorem rk_rs (hn : n < st.length) (hr : RowI (n + 1) st x ts) : RS n s (rk st n s a x c b t) a c b ts := ⟨x, rk_lx hn, rk_row hr⟩
theorem rk_keeps (hn : n < st.length) : Keeps n st (rk st n s a x c b t) := (Keeps.set (Nat.le_refl _)).trans (Keeps.app (by simp; omega))
end

def ibN (l : List UInt8) : Nat := if Lib.indexByte l 34 < 0 then l.length else (Lib.indexByte l 34).toNat
theorem ibN_cons (b : UInt8) (l : List UInt8) : ibN (b :: l) = if b = 34 then 0 else ibN l + 1 := by
  have hge := Lib.indexByte_ge l 34
  unfold ibN
  simp only [Lib.indexByte]
  by_cases hp : b = 34
  · simp [hp]
  · have hp' : (b == 34) = false := by simpa using hp
    simp only [hp', hp, Bool.false_eq_true, if_false]
    by_cases h1 : Lib.indexByte l 34 = -1
    · simp [h1]
    · have : (Lib.indexByte l 34 == -1) = false := by simpa using h1
      simp only [this, Bool.false_eq_true, if_false]
      have h2 : ¬ Lib.indexByte l 34 < 0 := by omega
      have h3 : ¬ Lib.indexByte l 34 + 1 < 0 := by omega
      rw [if_neg h2, if_neg h3]
      omega

section
variable {n : Nat} {s : ByteArray} {st : Sto} {a c b : Nat} {ts : List Tk} {x : AV}

theorem rval_loop (hs : s.size ≤ 65536) (k : Nat) (y z : AV) : ∀ (m a : Nat), a + m = s.size → ∀ st : Sto, st[n]? = some (RX s a x c b) →
    stencilref12_lexer_attr.p111111111000 (.mp n 0 0) k y z st = stencilref12_lexer_attr.p11111111100001 (.mp n 0 0) k y z false (st.set n (RX s (a + ibN (s.data.toList.drop a)) x c b)) := by
  intro m
  induction m with
  | zero =>
    intro a hm st h
    have hlt : ¬ ((a : Int) < ((s.size : Nat) : Int)) := by omega
    rw [stencilref12_lexer_attr.p111111111000_eq]
    simp only [nkm, fam, rx_s h, rx_at h, Option.bind_some, asS, asI, if_true, hlt, decide_false, cond_false]
    rw [drop_out (by omega), show ibN [] = 0 from rfl, Nat.add_zero, set_same h]
  | succ m ih =>
    intro a hm st h
    have hlt : ((a : Int) < ((s.size : Nat) : Int)) := by omega
    have hlt' : a < s.size := by omega
    obtain ⟨ch, _, h2, h3⟩ := drop_at hlt'
    have hw : IntKind.wrap .i64 ((a : Int) + 1) = ((a + 1 : Nat) : Int) := w64 _ (by omega) (by omega)
    have h' := lx_set (rx_lt h) (RX s (a + 1) x c b)
    have nxt := ih (a + 1) (by omega) _ h'
    rw [List.set_set] at nxt
    have e34 : decide (((ch.toNat : Nat) : Int) = 34) = decide (ch = 34) := by
      refine decide_eq_decide.2 ⟨fun h => UInt8.toNat_inj.1 (by show ch.toNat = 34; omega), fun h => by rw [h]; rfl⟩
    rw [stencilref12_lexer_attr.p111111111000_eq]
    simp only [nkm, fam, rx_s h, rx_at h, Option.bind_some, asS, asI, Go.St.asInt, if_true, hlt, decide_true, cond_true, idx_nat hlt', h2, e34]
    rw [h3, ibN_cons]
    by_cases hc : ch = 34
    · simp only [hc, decide_true, Bool.not_true, if_true, Nat.add_zero, set_same h]
    · simp only [hc, decide_false, Bool.not_false, if_false]
      rw [stencilref12_lexer_attr.p11111111100001_eq]
      simp only [cond_true, nkm, fam, rx_at h, Option.bind_some, asI, if_true, hw, rx_sat h, nxt]
      rw [show a + 1 + ibN (s.data.toList.drop (a + 1)) = a + (ibN (s.data.toList.drop (a + 1)) + 1) by omega]

theorem rattr_ret (hn : n < st.length) (hr : RowI (n + 1) st x ts) {t : Tk} {k : Nat} {e : Nat × Nat} (he : e.1 ≠ 0) {q : Bool} (hq : q = false) :
    ∃ st' a' ts', stencilref12_lexer_attr.p11111 (.mp n 0 0) k (rk st n s a x e.1 e.2 t) = some ⟨.ret (.tup []), none, st'⟩ ∧ RS n s st' a' e.1 e.2 ts' ∧ Keeps n st st' := by
  refine ⟨rk st n s a x e.1 e.2 t, a, ts, ?_, rk_rs hn hr, rk_keeps hn⟩
  have e1 : decide (((e.1 : Nat) : Int) = 0) = false := decide_eq_false (by omega)
  rw [stencilref12_lexer_attr.p11111_eq]
  simp only [nkm, fam, rx_code (rk_lx hn), Option.bind_some, asI, if_true, e1, Bool.not_false, cond_true]

theorem rattr_end (hn : n < st.length) (hr : RowI (n + 1) st x ts) (hs : s.size ≤ 65536) (hts : ts.length ≤ 1000000) {k a1 : Nat} (hk : k ≤ 1) (hb : badN (s.data.toList.drop a1) = false) :
    PVB n s st ts (attr2 s.data.toList a k a1) (stencilref12_lexer_attr.p1111 (.mp n 0 0) st.length (if pre [61] (s.data.toList.drop (a1 + nm (s.data.toList.drop a1))) = true then
      rk st n s (a1 + nm (s.data.toList.drop a1) + 1) x 0 0 ⟨4 + k, (s.data.toList.drop a1).take (nm (s.data.toList.drop a1)), [], a⟩
      else rk st n s (a1 + nm (s.data.toList.drop a1)) x 1202 (a1 + nm (s.data.toList.drop a1)) ⟨4 + k, (s.data.toList.drop a1).take (nm (s.data.toList.drop a1)), [], a⟩)) := by
  obtain ⟨hpos, _, hle⟩ := badN_false hb
  rw [List.length_drop, ← size_list] at hle
  replace hle : a1 + nm (s.data.toList.drop a1) ≤ s.size := by omega
  obtain ⟨w, hw⟩ : ∃ w, w = (s.data.toList.drop a1).take (nm (s.data.toList.drop a1)) := ⟨_, rfl⟩
  unfold attr2
  rw [← hw]
  obtain ⟨a2, ha2⟩ : ∃ a2, a2 = a1 + nm (s.data.toList.drop a1) := ⟨_, rfl⟩
  rw [← ha2] at hle ⊢
  have d0 : decide (((0 : Nat) : Int) = 0) = true := rfl
  have d12 : decide (((1202 : Nat) : Int) = 0) = false := rfl
  have old : ∀ {a c b : Nat} {t : Tk}, x.old (rk st n s a x c b t).length = true := fun {a c b t} => hr.old (by rw [rk_len]; omega)
  cases h61 : pre [61] (s.data.toList.drop a2) with
  | false =>
    simp only [if_true, Bool.false_eq_true, if_false]
    rw [stencilref12_lexer_attr.p1111_eq]
    simp only [nkm, fam, rx_code (rk_lx hn), Option.bind_some, asI, if_true, d12, cond_false]
    rw [stencilref12_lexer_attr.p111101_eq]
    simp only [cond_false]
    exact rattr_ret hn hr (e := (1202, a2)) (show (1202 : Nat) ≠ 0 by decide) rfl
  | true =>
    have hl1 := pre_drop h61
    simp only [List.length_cons, List.length_nil, ← size_list, List.cons_ne_nil, or_false] at hl1
    simp only [if_true, Bool.true_eq_false, if_false]
    have hh := here_spec (rk_lx (s := s) (a := a2 + 1) (x := x) (c := 0) (b := 0) (t := ⟨4 + k, w, [], a⟩) hn) (by omega) hs ⟨#[34]⟩ (by decide)
    rw [show (ByteArray.mk #[34]).data.toList = [34] from rfl] at hh
    rw [stencilref12_lexer_attr.p1111_eq]
    simp only [nkm, fam, rx_code (rk_lx hn), Option.bind_some, asI, asB, if_true, d0, cond_true, hh, Out.on]
    cases h34 : pre [34] (s.data.toList.drop (a2 + 1)) with
    | false =>
      have hf := rfail_spec (rk_lx (s := s) (a := a2 + 1) (x := x) (b := 0) (t := ⟨4 + k, w, [], a⟩) hn) old 1202 (a2 + 1)
      rw [rk_set hn] at hf
      rw [stencilref12_lexer_attr.p111101_eq]
      simp only [Bool.not_false, cond_true, nkm, fam, rx_at (rk_lx hn), Option.bind_some, if_true]
      rw [show ((1202 : Int)) = ((1202 : Nat) : Int) from rfl, hf]
      simp only [Option.bind_some, Out.on]
      exact rattr_ret hn hr (e := (1202, a2 + 1)) (show (1202 : Nat) ≠ 0 by decide) rfl
    | true =>
      have hl2 := pre_drop h34
      simp only [List.length_cons, List.length_nil, ← size_list, List.cons_ne_nil, or_false] at hl2
      have w1 : IntKind.wrap .i64 (((a2 + 1 : Nat) : Int) + 1) = ((a2 + 1 + 1 : Nat) : Int) := w64 _ (by omega) (by omega)
      have loop := rval_loop (c := 0) (b := 0) (x := x) (n := n) hs st.length (.int .i64 ((a2 + 1 : Nat) : Int)) (.int .i64 ((a2 + 1 + 1 : Nat) : Int)) (s.size - (a2 + 1 + 1)) (a2 + 1 + 1) (by omega) _ (rk_lx (s := s) (a := a2 + 1 + 1) (x := x) (c := 0) (b := 0) (t := ⟨4 + k, w, [], a⟩) hn)
      rw [rk_set hn] at loop
      rw [stencilref12_lexer_attr.p111101_eq]
      simp only [Bool.not_true, cond_false, Bool.true_eq_false, if_false]
      rw [stencilref12_lexer_attr.p11111_eq]
      simp only [nkm, fam, rx_code (rk_lx hn), rx_at (rk_lx hn), Option.bind_some, asI, if_true, d0, Bool.not_true, cond_false, w1, rx_sat (rk_lx hn), rk_set hn, loop]
      have hlt := @indexByte_lt (s.data.toList.drop (a2 + 1 + 1)) 34
      rw [drop_len] at hlt
      obtain ⟨a3, ha3⟩ : ∃ a3, a3 = a2 + 1 + 1 + ibN (s.data.toList.drop (a2 + 1 + 1)) := ⟨_, rfl⟩
      rw [← ha3]
      unfold ibN at ha3
      rw [drop_len] at ha3
      obtain ⟨i, hi⟩ : ∃ i, i = Lib.indexByte (s.data.toList.drop (a2 + 1 + 1)) 34 := ⟨_, rfl⟩
      rw [← hi] at hlt ha3 ⊢
      rw [stencilref12_lexer_attr.p11111111100001_eq]
      by_cases hneg : i < 0
      · rw [if_pos hneg] at ha3
        have e : (((s.size : Nat) : Int) ≤ ((a3 : Nat) : Int)) := by omega
        have hf := rfail_spec (rk_lx (s := s) (a := a3) (x := x) (b := 0) (t := ⟨4 + k, w, [], a⟩) hn) old 1203 (a2 + 1)
        rw [rk_set hn] at hf
        simp only [cond_false, nkm, fam, rx_at (rk_lx hn), rx_s (rk_lx hn), Option.bind_some, asS, asI, if_true, e, decide_true, cond_true, hneg]
        rw [show ((1203 : Int)) = ((1203 : Nat) : Int) from rfl, hf]
        exact ⟨_, _, _, rfl, rk_rs hn hr, rk_keeps hn⟩
      · have hl3 := hlt hneg
        rw [if_neg hneg] at ha3
        have e : ¬ (((s.size : Nat) : Int) ≤ ((a3 : Nat) : Int)) := by omega
        have b1 : bnd s.size s.size (some (.int .i64 ((a3 : Nat) : Int))) = some a3 := bnd_int (by omega)
        have b2 : bnd 0 a3 (some (.int .i64 ((a2 + 1 + 1 : Nat) : Int))) = some (a2 + 1 + 1) := bnd_int (by omega)
        have hk4 : decide ((((4 + k : Nat) : Int)) = 4) = !decide (k = 1) := by
          rcases (show k = 0 ∨ k = 1 by omega) with rfl | rfl <;> rfl
        obtain ⟨y, p1, p2⟩ := rplain_spec (rk_lx (s := s) (a := a3) (x := x) (b := 0) (t := ⟨4 + k, w, [], a⟩) hn) old (a2 + 1 + 1) (by omega) (ByteArray.extract s (a2 + 1 + 1) a3) (by rw [ext_sz s _ a3 (by omega) (by omega)]; omega) (a2 + 1) (decide (k = 1))
        rw [ext_list, show a3 - (a2 + 1 + 1) = i.toNat by omega] at p1
        simp only [rk_set hn] at p1
        rw [ext_list, show a3 - (a2 + 1 + 1) = i.toNat by omega] at p2
        have w2 : IntKind.wrap .i64 (((a3 : Nat) : Int) + 1) = ((a3 + 1 : Nat) : Int) := w64 _ (by omega) (by omega)
        simp only [cond_false, nkm, fam, rx_at (rk_lx hn), rx_s (rk_lx hn), Option.bind_some, asS, asI, if_true, e, decide_false, hneg, if_false, b1, b2, rk_kind, hk4, p1]
        cases hr2 : plM ((s.data.toList.drop (a2 + 1 + 1)).take i.toNat) (a2 + 1 + 1) (a2 + 1) (decide (k = 1)) with
        | error e =>
          have hn' : n < (rk st n s (a3 + 1) x e.1 e.2 ⟨4 + k, w, y, a⟩).length := by rw [rk_len]; omega
          obtain ⟨x', st', k1, k2, k3, k4, k5⟩ := RS.add (rk_lx (s := s) (a := a3 + 1) (x := x) (c := e.1) (b := e.2) (t := ⟨4 + k, w, y, a⟩) hn) (rk_row hr) hts ⟨4 + k, w, y, a⟩
          have hst := rk_stext (st := st) (n := n) (s := s) (a := a3) (x := x) (c := e.1) (b := e.2) (t := ⟨4 + k, w, [], a⟩) y
          simp only [Out.on, hst, Option.bind_some, nkm, fam, rx_at (rk_lx hn), asI, if_true, w2, rx_sat (rk_lx hn), rk_set hn, rx_out (rk_lx hn), rk_all, lit_tok, k1, k2]
          exact ⟨_, _, _, rfl, ⟨_, k3, k4⟩, (rk_keeps hn).trans k5⟩
        | ok z =>
          have hyz := p2 z hr2
          subst hyz
          obtain ⟨x', st', k1, k2, k3, k4, k5⟩ := RS.add (rk_lx (s := s) (a := a3 + 1) (x := x) (c := 0) (b := 0) (t := ⟨4 + k, w, y, a⟩) hn) (rk_row hr) hts ⟨4 + k, w, y, a⟩
          have hst := rk_stext (st := st) (n := n) (s := s) (a := a3) (x := x) (c := 0) (b := 0) (t := ⟨4 + k, w, [], a⟩) y
          simp only [Out.on, hst, Option.bind_some, nkm, fam, rx_at (rk_lx hn), asI, if_true, w2, rx_sat (rk_lx hn), rk_set hn, rx_out (rk_lx hn), rk_all, lit_tok, k1, k2]
          exact ⟨_, rfl, ⟨_, by rw [show a2 + 1 + 1 + (i.toNat + 1) = a3 + 1 by omega]; exact k3, k4⟩, (rk_keeps hn).trans k5⟩

theorem rattr_walk (h : RS n s st a 0 0 ts) (hs : s.size ≤ 65536) (hts : ts.length ≤ 1000000) (ha : a ≤ s.size) :
    PV n s st ts (attrM s.data.toList a) (CallR ap 36 [.mp n 0 0] st) := by
  rw [stencilref12_lexer_attr.call]
  refine pv_of h ?_
  obtain ⟨x, h0, hr⟩ := h
  have hn := rx_lt h0
  have old : ∀ {a c b : Nat} {t : Tk}, x.old (rk st n s a x c b t).length = true := fun {a c b t} => hr.old (by rw [rk_len]; omega)
  have hi := here_spec (rk_lx (s := s) (a := a) (x := x) (c := 0) (b := 0) (t := ⟨4, [], [], a⟩) hn) ha hs ⟨#[58]⟩ (by decide)
  rw [show (ByteArray.mk #[58]).data.toList = [58] from rfl] at hi
  have start : stencilref12_lexer_attr.b (.mp n 0 0) st = stencilref12_lexer_attr.p11 (.mp n 0 0) st.length (rk st n s (a + colon s.data.toList a) x 0 0 ⟨4 + colon s.data.toList a, [], [], a⟩) := by
    rw [stencilref12_lexer_attr.b_eq]
    simp only [nkm, fam, rx_at h0, Option.bind_some, L_attr1, rk_new h0, hi, Out.on, asB]
    unfold colon
    cases hp : pre [58] (s.data.toList.drop a) with
    | false => rfl
    | true =>
      have hw : IntKind.wrap .i64 (((a : Nat) : Int) + 1) = ((a + 1 : Nat) : Int) := w64 _ (by have := pre_drop hp; simp only [List.length_cons, List.length_nil, ← size_list, List.cons_ne_nil, or_false] at this; omega) (by omega)
      have hst := rk_skind (st := st) (n := n) (s := s) (a := a) (x := x) (c := 0) (b := 0) (t := ⟨4, [], [], a⟩) 5
      rw [show (((5 : Nat) : Int)) = 5 from rfl] at hst
      simp only [cond_true, hst, Option.bind_some, nkm, fam, rx_at (rk_lx hn), asI, if_true, hw, rx_sat (rk_lx hn), rk_set hn]
  have hc : colon s.data.toList a ≤ 1 ∧ a + colon s.data.toList a ≤ s.size := by
    unfold colon
    split
    · rename_i hp
      have := pre_drop hp
      simp only [List.length_cons, List.length_nil, ← size_list, List.cons_ne_nil, or_false] at this
      omega
    · omega
  unfold attrM
  obtain ⟨k, hk⟩ : ∃ k, k = colon s.data.toList a := ⟨_, rfl⟩
  rw [← hk] at start hc ⊢
  have hnw := rname_spec (rk_lx (s := s) (a := a + k) (x := x) (b := 0) (t := ⟨4 + k, [], [], a⟩) hn) old hc.2 hs
  have d0 : decide (((0 : Nat) : Int) = 0) = true := rfl
  have d12 : decide (((1202 : Nat) : Int) = 0) = false := rfl
  rw [start, stencilref12_lexer_attr.p11_eq]
  cases hb : badN (s.data.toList.drop (a + k)) with
  | true =>
    rw [hb] at hnw
    simp only [if_true, rk_set hn] at hnw
    have hst := rk_sname (st := st) (n := n) (s := s) (a := a + k + nm (s.data.toList.drop (a + k))) (x := x) (c := 1202) (b := a + k) (t := ⟨4 + k, [], [], a⟩) ((s.data.toList.drop (a + k)).take (nm (s.data.toList.drop (a + k))))
    simp only [hnw, Option.bind_some, Out.on, hst, nkm, fam, rx_code (rk_lx hn), asI, if_true, d12, cond_false]
    rw [stencilref12_lexer_attr.p1111_eq]
    simp only [nkm, fam, rx_code (rk_lx hn), Option.bind_some, asI, if_true, d12, cond_false]
    rw [stencilref12_lexer_attr.p111101_eq]
    simp only [cond_false]
    exact rattr_ret hn hr (e := (1202, a + k)) (show (1202 : Nat) ≠ 0 by decide) rfl
  | false =>
    rw [hb] at hnw
    simp only [Bool.false_eq_true, if_false, rk_set hn] at hnw
    obtain ⟨_, _, hle⟩ := badN_false hb
    rw [List.length_drop, ← size_list] at hle
    have hst := rk_sname (st := st) (n := n) (s := s) (a := a + k + nm (s.data.toList.drop (a + k))) (x := x) (c := 0) (b := 0) (t := ⟨4 + k, [], [], a⟩) ((s.data.toList.drop (a + k)).take (nm (s.data.toList.drop (a + k))))
    have hw := must_spec (rk_lx (s := s) (a := a + k + nm (s.data.toList.drop (a + k))) (x := x) (b := 0) (t := ⟨4 + k, (s.data.toList.drop (a + k)).take (nm (s.data.toList.drop (a + k))), [], a⟩) hn) old (by omega) hs ⟨#[61]⟩ (by decide)
    rw [show (ByteArray.mk #[61]).data.toList = [61] from rfl] at hw
    have := rattr_end (a := a) hn hr hs hts hc.1 hb
    simp only [Bool.false_eq_true, if_false, hnw, Option.bind_some, Out.on, hst, nkm, fam, rx_code (rk_lx hn), asI, if_true, d0, cond_true, hw]
    cases h61 : pre [61] (s.data.toList.drop (a + k + nm (s.data.toList.drop (a + k)))) with
    | true =>
      rw [h61] at this
      simp only [if_true, rk_set hn] at this ⊢
      exact this
    | false =>
      rw [h61] at this
      simp only [Bool.false_eq_true, if_false, rk_set hn] at this ⊢
      exact this
end
end Go.Proofs.YtigdijdpggjpiaaDoor
