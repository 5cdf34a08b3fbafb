/- The lexer's walk: attributes and tags. -/
import Derived.Test.YtigdijdpggjpiaaDoorZ
namespace Go.Proofs.YtigdijdpggjpiaaDoor
open Go.St Go.Lib
set_option linter.unusedVariables false
set_option linter.unusedSimpArgs false

/-- The state with a token under way behind it. -/
def wk (st : Sto) (n : Nat) (s : ByteArray) (a c b : Nat) (t : Tk) : Sto := st.set n (LX s a c b) ++ [.cells 0 (tcell t) 0]
section
variable {st : Sto} {n : Nat} {s : ByteArray} {a c b : Nat} {t : Tk}
theorem wk_len : (wk st n s a c b t).length = st.length + 1 := by simp [wk]
theorem wk_lx (hn : n < st.length) : (wk st n s a c b t)[n]? = some (LX s a c b) := app_at (lx_set hn _)
theorem wk_set (hn : n < st.length) (a' c' b' : Nat) : (wk st n s a c b t).set n (LX s a' c' b') = wk st n s a' c' b' t := by
  unfold wk
  rw [List.set_append_left _ _ (by simpa using hn), List.set_set]
theorem wk_at : (wk st n s a c b t)[st.length]? = some (.cells 0 (tcell t) 0) := by
  unfold wk
  rw [List.getElem?_append_right (by simp)]
  simp
theorem wk_put (cs : List AV) : (wk st n s a c b t).set st.length (.cells 0 cs 0) = st.set n (LX s a c b) ++ [.cells 0 cs 0] := by
  unfold wk
  rw [List.set_append_right _ _ (by simp)]
  simp
theorem wk_kind : ld false 1 (wk st n s a c b t) (.mp st.length 0 0) = some (.int .i64 (t.kind : Nat)) := m_get (cs := tcell t) (n := 0) wk_at rfl
theorem wk_all : ld true 4 (wk st n s a c b t) (.mp st.length 0 0) = some (.agg (tcell t)) := m_all (cs := tcell t) wk_at rfl
theorem wk_skind (k : Nat) : sto 1 (wk st n s a c b t) (.mp st.length 0 0) (.int .i64 (k : Nat)) = some (wk st n s a c b ⟨k, t.name, t.text, t.at_⟩) := by
  rw [sto_at wk_at (show 0 < 4 by decide) rfl rfl, wk_put]; rfl
theorem wk_sname (w : List UInt8) : sto 1 (wk st n s a c b t) (.mp st.length 0 1) (.str (mk w)) = some (wk st n s a c b ⟨t.kind, w, t.text, t.at_⟩) := by
  rw [sto_at wk_at (show 1 < 4 by decide) rfl rfl, wk_put]; rfl
theorem wk_stext (w : List UInt8) : sto 1 (wk st n s a c b t) (.mp st.length 0 2) (.str (mk w)) = some (wk st n s a c b ⟨t.kind, t.name, w, t.at_⟩) := by
  rw [sto_at wk_at (show 2 < 4 by decide) rfl rfl, wk_put]; rfl
theorem wk_new (h : st[n]? = some (LX s a c b)) : sto 4 (st ++ [Ob.cells 0 [.int .i64 0, .str ⟨#[]⟩, .str ⟨#[]⟩, .int .i64 0] 0]) (.mp st.length 0 0) (.agg (tcell t)) = some (wk st n s a c b t) := by
  unfold wk
  rw [set_same h]
  exact sto_new (cs := [.int .i64 0, .str ⟨#[]⟩, .str ⟨#[]⟩, .int .i64 0]) (cs' := tcell t) rfl rfl rfl
theorem wk_ls {a0 c0 b0 : Nat} {ts : List Tk} (h : LS n s st a0 c0 b0 ts) : LS n s (wk st n s a c b t) a c b ts := (h.move a c b).app _
theorem wk_keeps (hn : n < st.length) : Keeps n st (wk st n s a c b t) := (Keeps.set (Nat.le_refl _)).trans (Keeps.app (by simp; omega))
end

section
variable {n : Nat} {s : ByteArray} {st : Sto} {a c b : Nat} {ts : List Tk}
theorem L_attr1 (a : Nat) : aggA (fillA (fun i => ([(0, 1), (1, 1), (2, 1), (3, 1)] : List (Nat × Nat))[i]?) [.int .i64 0, .str ⟨#[]⟩, .str ⟨#[]⟩, .int .i64 0] [(0, (.int .i64 4)), (3, .int .i64 ((a : Nat) : Int))]) = some (.agg (tcell ⟨4, [], [], a⟩)) := rfl
theorem L_open1 (a : Nat) : aggA (fillA (fun i => ([(0, 1), (1, 1), (2, 1), (3, 1)] : List (Nat × Nat))[i]?) [.int .i64 0, .str ⟨#[]⟩, .str ⟨#[]⟩, .int .i64 0] [(0, (.int .i64 3)), (3, .int .i64 ((a : Nat) : Int))]) = some (.agg (tcell ⟨3, [], [], a⟩)) := rfl
theorem L_end1 (a : Nat) : aggA (fillA (fun i => ([(0, 1), (1, 1), (2, 1), (3, 1)] : List (Nat × Nat))[i]?) [.int .i64 0, .str ⟨#[]⟩, .str ⟨#[]⟩, .int .i64 0] [(0, (.int .i64 6)), (3, .int .i64 ((a : Nat) : Int))]) = some (.agg (tcell ⟨6, [], [], a⟩)) := rfl

theorem want_wk (hn : n < st.length) (t : Tk) (ha : a ≤ s.size) (hs : s.size ≤ 65536) (w : ByteArray) (hw : w.size ≤ 100) :
    CallR ap 49 [.mp n 0 0, .str w] (wk st n s a c b t) = some (.ret (.bool (pre w.data.toList (s.data.toList.drop a))), if pre w.data.toList (s.data.toList.drop a) = true then wk st n s (a + w.size) c b t else wk st n s a 1202 a t) := by
  rw [want_spec (wk_lx hn) ha hs w hw]
  split <;> simp only [wk_set hn]
theorem name_wk (hn : n < st.length) (t : Tk) (ha : a ≤ s.size) (hs : s.size ≤ 65536) :
    CallR ap 47 [.mp n 0 0] (wk st n s a c b t) = some (if badN (s.data.toList.drop a) = true then (.ret badName, wk st n s (a + nm (s.data.toList.drop a)) 1202 a t)
      else (.ret (.tup [.str (mk ((s.data.toList.drop a).take (nm (s.data.toList.drop a)))), .bool true]), wk st n s (a + nm (s.data.toList.drop a)) c b t)) := by
  rw [name_spec (wk_lx hn) ha hs]
  unfold badN
  by_cases hb : nm (s.data.toList.drop a) = 0 ∨ 32 < nm (s.data.toList.drop a)
  · rw [if_pos hb, if_pos (by simpa using hb), wk_set hn]
  · rw [if_neg hb, if_neg (by simpa using hb), wk_set hn]

theorem attr_end (h : LS n s st a 0 0 ts) (hs : s.size ≤ 65536) (hts : ts.length ≤ 1000000) {k a1 : Nat} (hk : k ≤ 1) (hb : badN (s.data.toList.drop a1) = false) :
    PostB n s st ts (attr2 s.data.toList a k a1) (if pre [61] (s.data.toList.drop (a1 + nm (s.data.toList.drop a1))) = true then
      lex_lexer_attr.p1111011 (.mp n 0 0) (.yl (n + 3)) st.length false (wk st n s (a1 + nm (s.data.toList.drop a1) + 1) 0 0 ⟨4 + k, (s.data.toList.drop a1).take (nm (s.data.toList.drop a1)), [], a⟩)
      else lex_lexer_attr.p1111011 (.mp n 0 0) (.yl (n + 3)) st.length true (wk st n s (a1 + nm (s.data.toList.drop a1)) 1202 (a1 + nm (s.data.toList.drop a1)) ⟨4 + k, (s.data.toList.drop a1).take (nm (s.data.toList.drop a1)), [], a⟩)) := by
  have hn : n < st.length := by have := h.lt; omega
  obtain ⟨hpos, _, hle⟩ := badN_false hb
  rw [List.length_drop, ← size_list] at hle
  replace hle : a1 + nm (s.data.toList.drop a1) ≤ s.size := by omega
  obtain ⟨x, hx⟩ : ∃ x, x = (s.data.toList.drop a1).take (nm (s.data.toList.drop a1)) := ⟨_, rfl⟩
  unfold attr2
  rw [← hx]
  obtain ⟨a2, ha2⟩ : ∃ a2, a2 = a1 + nm (s.data.toList.drop a1) := ⟨_, rfl⟩
  rw [← ha2] at hle ⊢
  cases h61 : pre [61] (s.data.toList.drop a2) with
  | false =>
    simp only [if_true, Bool.false_eq_true, if_false]
    rw [lex_lexer_attr.p1111011_eq]
    simp only [cond_true]
    exact ⟨_, _, _, rfl, wk_ls h, wk_keeps hn⟩
  | true =>
    have hl1 := pre_drop h61
    simp only [List.length_cons, List.length_nil, ← size_list, List.cons_ne_nil, or_false] at hl1
    simp only [if_true, Bool.true_eq_false, if_false]
    rw [lex_lexer_attr.p1111011_eq]
    have hw := want_wk (c := 0) (b := 0) hn ⟨4 + k, x, [], a⟩ (a := a2 + 1) (by omega) hs ⟨#[34]⟩ (by decide)
    rw [show (ByteArray.mk #[34]).data.toList = [34] from rfl, show (ByteArray.mk #[34]).size = 1 from rfl] at hw
    simp only [cond_false, nkm, fam, lx_at (wk_lx hn), Option.bind_some, hw, Out.on, asB]
    cases h34 : pre [34] (s.data.toList.drop (a2 + 1)) with
    | false =>
      simp only [Bool.not_false, cond_true, if_true, Bool.false_eq_true, if_false]
      exact ⟨_, _, _, rfl, wk_ls h, wk_keeps hn⟩
    | true =>
      have hl2 := pre_drop h34
      simp only [List.length_cons, List.length_nil, ← size_list, List.cons_ne_nil, or_false] at hl2
      have b1 : bnd 0 s.size (some (.int .i64 ((a2 + 1 + 1 : Nat) : Int))) = some (a2 + 1 + 1) := bnd_int (by omega)
      have hib := indexByte_spec (ByteArray.extract s (a2 + 1 + 1) s.size) 34
      rw [show (((34 : UInt8).toNat : Nat) : Int) = 34 from rfl, drop_list] at hib
      simp only [Bool.not_true, cond_false, if_true, Bool.true_eq_false, if_false, nkm, fam, lx_at (wk_lx hn), lx_s (wk_lx hn), Option.bind_some, asS, b1, hib, Out.on, asI]
      have hlt := @indexByte_lt (s.data.toList.drop (a2 + 1 + 1)) 34
      obtain ⟨i, hi⟩ : ∃ i, i = Lib.indexByte (s.data.toList.drop (a2 + 1 + 1)) 34 := ⟨_, rfl⟩
      rw [← hi] at hlt ⊢
      by_cases hneg : i < 0
      · have hf := fail_spec (wk_lx (c := 0) (b := 0) (a := a2 + 1 + 1) (t := ⟨4 + k, x, [], a⟩) (s := s) hn) 1203 (a2 + 1)
        rw [wk_set hn] at hf
        simp only [hneg, decide_true, cond_true, if_true]
        rw [show ((1203 : Int)) = ((1203 : Nat) : Int) from rfl, hf]
        exact ⟨_, _, _, rfl, wk_ls h, wk_keeps hn⟩
      · have hl3 := hlt hneg
        rw [drop_len] at hl3
        obtain ⟨j, rfl⟩ : ∃ j : Nat, i = (j : Int) := ⟨i.toNat, by omega⟩
        rw [Int.toNat_natCast] at *
        have w1 : IntKind.wrap .i64 (((a2 + 1 + 1 : Nat) : Int) + ((j : Nat) : Int)) = ((a2 + 1 + 1 + j : Nat) : Int) := w64 _ (by omega) (by omega)
        have w2 : IntKind.wrap .i64 (((j : Nat) : Int) + 1) = ((j + 1 : Nat) : Int) := w64 _ (by omega) (by omega)
        have w3 : IntKind.wrap .i64 (((a2 + 1 + 1 : Nat) : Int) + ((j + 1 : Nat) : Int)) = ((a2 + 1 + 1 + (j + 1) : Nat) : Int) := w64 _ (by omega) (by omega)
        have hk5 : decide ((((4 + k : Nat) : Int)) = 5) = decide (k = 1) := decide_eq_decide.2 ⟨fun h => by omega, fun h => by omega⟩
        have hp := plain_spec (wk_lx (c := 0) (b := 0) (a := a2 + 1 + 1) (t := ⟨4 + k, x, [], a⟩) (s := s) hn) hs (f := a2 + 1 + 1) (t := a2 + 1 + 1 + j) (by omega) (by omega) (a2 + 1) (decide (k = 1))
        rw [Nat.add_sub_cancel_left] at hp
        simp only [hneg, decide_false, cond_false, if_false, w1, wk_kind, Option.bind_some, hk5, hp, asI, if_true]
        cases hr : plM ((s.data.toList.drop (a2 + 1 + 1)).take j) (a2 + 1 + 1) (a2 + 1) (decide (k = 1)) with
        | error e =>
          have hst := wk_stext (st := st) (n := n) (s := s) (a := a2 + 1 + 1) (c := e.1) (b := e.2) (t := ⟨4 + k, x, [], a⟩) []
          simp only [badName, Out.on, ext, List.getElem?_cons_zero, List.getElem?_cons_succ, Option.bind_some, wk_set hn, show (AV.str ⟨#[]⟩) = .str (mk []) from rfl, hst, asB, Bool.not_false, cond_true]
          exact ⟨_, _, _, rfl, wk_ls h, wk_keeps hn⟩
        | ok y =>
          have hst := wk_stext (st := st) (n := n) (s := s) (a := a2 + 1 + 1) (c := 0) (b := 0) (t := ⟨4 + k, x, [], a⟩) y
          obtain ⟨st', y1, y2, y3⟩ := yield_spec (wk_ls (a := a2 + 1 + 1 + (j + 1)) (c := 0) (b := 0) (t := ⟨4 + k, x, y, a⟩) h) hts ⟨4 + k, x, y, a⟩
          simp only [Out.on, ext, List.getElem?_cons_zero, List.getElem?_cons_succ, Option.bind_some, hst, asB, Bool.not_true, cond_false, nkm, fam, lx_at (wk_lx hn), asI, if_true, w2, w3, lx_sat (wk_lx hn), wk_set hn, wk_all, inv_yl, y1]
          exact ⟨_, rfl, y2, (wk_keeps hn).trans y3⟩

theorem attr_walk (h : LS n s st a 0 0 ts) (hs : s.size ≤ 65536) (hts : ts.length ≤ 1000000) (ha : a ≤ s.size) :
    Post n s st ts (attrM s.data.toList a) (CallR ap 50 [.mp n 0 0, .yl (n + 3)] st) := by
  rw [lex_lexer_attr.call]
  refine post_of h ?_
  have hn : n < st.length := by have := h.lt; omega
  have hi := is_spec (wk_lx (s := s) (a := a) (c := 0) (b := 0) (t := ⟨4, [], [], a⟩) hn) ha ⟨#[58]⟩
  rw [show (ByteArray.mk #[58]).data.toList = [58] from rfl] at hi
  have start : lex_lexer_attr.b (.mp n 0 0) (.yl (n + 3)) st = lex_lexer_attr.p111 (.mp n 0 0) (.yl (n + 3)) st.length (wk st n s (a + colon s.data.toList a) 0 0 ⟨4 + colon s.data.toList a, [], [], a⟩) := by
    rw [lex_lexer_attr.b_eq]
    simp only [nkm, fam, lx_at h.lx, Option.bind_some, L_attr1, wk_new h.lx, hi, Out.on, asB]
    unfold colon
    cases hp : pre [58] (s.data.toList.drop a) with
    | false => rfl
    | true =>
      have hw : IntKind.wrap .i64 (((a : Nat) : Int) + 1) = ((a + 1 : Nat) : Int) := w64 _ (by omega) (by omega)
      have hst := wk_skind (st := st) (n := n) (s := s) (a := a) (c := 0) (b := 0) (t := ⟨4, [], [], a⟩) 5
      rw [show (((5 : Nat) : Int)) = 5 from rfl] at hst
      simp only [cond_true, hst, Option.bind_some, nkm, fam, lx_at (wk_lx hn), asI, if_true, hw, lx_sat (wk_lx hn), wk_set hn]
  have hc : colon s.data.toList a ≤ 1 ∧ a + colon s.data.toList a ≤ s.size := by
    unfold colon
    split
    · rename_i hp
      have := pre_drop hp
      simp only [List.length_cons, List.length_nil, ← size_list, List.cons_ne_nil, or_false] at this
      omega
    · omega
  unfold attrM
  obtain ⟨k, hk⟩ : ∃ k, k = colon s.data.toList a := ⟨_, rfl⟩
  rw [← hk] at start hc ⊢
  have hnw := name_wk (c := 0) (b := 0) hn ⟨4 + k, [], [], a⟩ hc.2 hs
  rw [start, lex_lexer_attr.p111_eq]
  cases hb : badN (s.data.toList.drop (a + k)) with
  | true =>
    rw [hb] at hnw
    simp only [if_true] at hnw
    have hst := wk_sname (st := st) (n := n) (s := s) (a := a + k + nm (s.data.toList.drop (a + k))) (c := 1202) (b := a + k) (t := ⟨4 + k, [], [], a⟩) []
    simp only [hnw, Option.bind_some, badName, Out.on, ext, List.getElem?_cons_zero, List.getElem?_cons_succ, show (AV.str ⟨#[]⟩) = .str (mk []) from rfl, hst, asB, Bool.not_false, cond_true, if_true]
    rw [lex_lexer_attr.p1111011_eq]
    simp only [cond_true]
    exact ⟨_, _, _, rfl, wk_ls h, wk_keeps hn⟩
  | false =>
    rw [hb] at hnw
    simp only [Bool.false_eq_true, if_false] at hnw
    obtain ⟨_, _, hle⟩ := badN_false hb
    rw [List.length_drop, ← size_list] at hle
    have hst := wk_sname (st := st) (n := n) (s := s) (a := a + k + nm (s.data.toList.drop (a + k))) (c := 0) (b := 0) (t := ⟨4 + k, [], [], a⟩) ((s.data.toList.drop (a + k)).take (nm (s.data.toList.drop (a + k))))
    have hw := want_wk (c := 0) (b := 0) hn ⟨4 + k, (s.data.toList.drop (a + k)).take (nm (s.data.toList.drop (a + k))), [], a⟩ (a := a + k + nm (s.data.toList.drop (a + k))) (by omega) hs ⟨#[61]⟩ (by decide)
    rw [show (ByteArray.mk #[61]).data.toList = [61] from rfl, show (ByteArray.mk #[61]).size = 1 from rfl] at hw
    have := attr_end h hs hts hc.1 hb
    simp only [Bool.false_eq_true, if_false, hnw, Option.bind_some, Out.on, ext, List.getElem?_cons_zero, List.getElem?_cons_succ, hst, asB, Bool.not_true, cond_false, hw]
    cases h61 : pre [61] (s.data.toList.drop (a + k + nm (s.data.toList.drop (a + k)))) with
    | true =>
      rw [h61] at this
      simpa using this
    | false =>
      rw [h61] at this
      simpa using this
end
end Go.Proofs.YtigdijdpggjpiaaDoor
