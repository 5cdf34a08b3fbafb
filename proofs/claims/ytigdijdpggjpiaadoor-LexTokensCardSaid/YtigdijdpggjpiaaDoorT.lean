/- The lexer's walk: tags, and all the tokens. -/
import Derived.Test.YtigdijdpggjpiaaDoorQ
namespace Go.Proofs.YtigdijdpggjpiaaDoor
open Go.St Go.Lib
set_option linter.unusedVariables false
set_option linter.unusedSimpArgs false

theorem attrM_len {L : List UInt8} {a : Nat} {r : List Tk × Nat} (h : attrM L a = .ok r) : r.1.length = 1 := by
  unfold attrM at h
  split at h
  · cases h
  · unfold attr2 at h
    repeat' split at h
    all_goals first | cases h; rfl | cases h
theorem attrsM_len {L : List UInt8} : ∀ {m a : Nat} {r : List Tk × Nat}, attrsM m L a = .ok r → r.1.length + a ≤ r.2 := by
  intro m
  induction m with
  | zero => intro a r h; cases h
  | succ m ih =>
    intro a r h
    simp only [attrsM] at h
    split at h
    · split at h
      · cases h
        simp
        omega
      · cases h
    · split at h
      · cases h
        simp
        omega
      · split at h
        · cases h
        · cases ha : attrM L (a + bl (L.drop a)) with
          | error e => rw [ha] at h; cases h
          | ok x =>
            rw [ha] at h
            have h1 := attr_lt ha
            have h2 := attrM_len ha
            cases hz : attrsM m L x.2 with
            | error e => simp only [hz] at h; cases h
            | ok z =>
              simp only [hz] at h
              have h2 := ih hz
              cases h
              simp only [List.length_append]
              omega
theorem stepM_len {L : List UInt8} {a : Nat} (ha : a < L.length) {r : List Tk × Nat} (h : stepM L a = .ok r) : r.1.length + a ≤ r.2 := by
  have hlt := step_lt ha h
  unfold stepM at h
  split at h
  · unfold holeM at h
    split at h
    · cases h
    · cases h
      simp only [List.length_cons, List.length_nil] at *
      omega
  · split at h
    · unfold tagM at h
      split at h
      · split at h
        · cases h
        · unfold close2 at h
          split at h
          · cases h
            simp only [List.length_cons, List.length_nil] at *
            omega
          · cases h
      · split at h
        · cases h
        · rename_i hb
          unfold open2 at h
          split at h
          · cases h
          · rename_i z hz
            have := attrsM_len hz
            obtain ⟨hpos, _, _⟩ := badN_false (by simpa using hb)
            cases h
            simp only [List.length_cons] at *
            omega
    · unfold textM at h
      split at h
      · cases h
      · cases h
        simp only [List.length_cons, List.length_nil] at *
        omega

section
variable {n : Nat} {s : ByteArray} {st : Sto} {a c b : Nat} {ts : List Tk}

theorem attrs_walk (hs : s.size ≤ 65536) : ∀ (m a : Nat) (st : Sto) (ts : List Tk), LS n s st a 0 0 ts → s.size < a + m → a ≤ s.size → ts.length ≤ a →
    PostB n s st ts (attrsM m s.data.toList a) (lex_lexer_tag.p1011111111000 (.mp n 0 0) (.yl (n + 3)) st) := by
  intro m
  induction m with
  | zero => intro a st ts h h1 h2; omega
  | succ m ih =>
    intro a st ts h hm ha hts
    have hble := bl_le (s.data.toList.drop a)
    rw [drop_len] at hble
    obtain ⟨a1, ha1⟩ : ∃ a1, a1 = a + bl (s.data.toList.drop a) := ⟨_, rfl⟩
    have hbl := blanks_spec h.lx ha hs
    obtain ⟨st1, hst1⟩ : ∃ st1, st1 = st.set n (LX s a1 0 0) := ⟨_, rfl⟩
    rw [← ha1, ← hst1] at hbl
    have h1 : LS n s st1 a1 0 0 ts := by rw [hst1]; exact h.move _ _ _
    have hn : n < st1.length := by have := h1.lt; omega
    have hk1 : Keeps n st st1 := by rw [hst1]; exact Keeps.set (Nat.le_refl _)
    have hkw : ∀ {a c b : Nat} {t : Tk}, Keeps n st (wk st1 n s a c b t) := fun {a c b t} => hk1.trans (wk_keeps hn)
    have hi1 := is_spec (wk_lx (s := s) (a := a1) (c := 0) (b := 0) (t := ⟨6, [], [], a1⟩) hn) (by omega) ⟨#[47]⟩
    rw [show (ByteArray.mk #[47]).data.toList = [47] from rfl] at hi1
    have hi2 := is_spec (wk_lx (s := s) (a := a1) (c := 0) (b := 0) (t := ⟨6, [], [], a1⟩) hn) (by omega) ⟨#[62]⟩
    rw [show (ByteArray.mk #[62]).data.toList = [62] from rfl] at hi2
    rw [lex_lexer_tag.p1011111111000_eq]
    simp only [hbl, Option.bind_some, Out.on, nkm, fam, lx_at h1.lx, L_end1, wk_new h1.lx, hi1, asB, attrsM, ← ha1]
    cases h47 : pre [47] (s.data.toList.drop a1) with
    | true =>
      have hl := pre_drop h47
      simp only [List.length_cons, List.length_nil, ← size_list, List.cons_ne_nil, or_false] at hl
      have hw : IntKind.wrap .i64 (((a1 : Nat) : Int) + 1) = ((a1 + 1 : Nat) : Int) := w64 _ (by omega) (by omega)
      have hst := wk_skind (st := st1) (n := n) (s := s) (a := a1) (c := 0) (b := 0) (t := ⟨6, [], [], a1⟩) 7
      rw [show (((7 : Nat) : Int)) = 7 from rfl] at hst
      have hwt := want_wk (c := 0) (b := 0) hn ⟨7, [], [], a1⟩ (a := a1 + 1) (by omega) hs ⟨#[62]⟩ (by decide)
      rw [show (ByteArray.mk #[62]).data.toList = [62] from rfl, show (ByteArray.mk #[62]).size = 1 from rfl] at hwt
      simp only [cond_true, if_true, hst, Option.bind_some, nkm, fam, lx_at (wk_lx hn), asI, hw, lx_sat (wk_lx hn), wk_set hn, hwt, Out.on]
      cases h62 : pre [62] (s.data.toList.drop (a1 + 1)) with
      | true =>
        obtain ⟨st', y1, y2, y3⟩ := yield_spec (wk_ls (a := a1 + 1 + 1) (c := 0) (b := 0) (t := ⟨7, [], [], a1⟩) h1) (by omega) ⟨7, [], [], a1⟩
        simp only [guardT, Option.bind_some, gOn, cond_true, if_true, wk_all, inv_yl, y1, Out.on, asB]
        exact ⟨_, rfl, y2, hkw.trans y3⟩
      | false =>
        simp only [guardT, Option.bind_some, gOn, cond_false, Bool.false_eq_true, if_false]
        exact ⟨_, _, _, rfl, wk_ls h1, hkw⟩
    | false =>
      simp only [cond_false, Bool.false_eq_true, if_false, hi2, Option.bind_some, Out.on, asB]
      cases h62 : pre [62] (s.data.toList.drop a1) with
      | true =>
        have hl := pre_drop h62
        simp only [List.length_cons, List.length_nil, ← size_list, List.cons_ne_nil, or_false] at hl
        have hw : IntKind.wrap .i64 (((a1 : Nat) : Int) + 1) = ((a1 + 1 : Nat) : Int) := w64 _ (by omega) (by omega)
        obtain ⟨st', y1, y2, y3⟩ := yield_spec (wk_ls (a := a1 + 1) (c := 0) (b := 0) (t := ⟨6, [], [], a1⟩) h1) (by omega) ⟨6, [], [], a1⟩
        simp only [cond_true, if_true, nkm, fam, lx_at (wk_lx hn), Option.bind_some, asI, hw, lx_sat (wk_lx hn), wk_set hn, wk_all, inv_yl, y1, Out.on]
        exact ⟨_, rfl, y2, hkw.trans y3⟩
      | false =>
        simp only [cond_false, Bool.false_eq_true, if_false]
        by_cases h0 : bl (s.data.toList.drop a) = 0
        · have hf := fail_spec (wk_lx (s := s) (a := a1) (c := 0) (b := 0) (t := ⟨6, [], [], a1⟩) hn) 1202 a1
          rw [wk_set hn] at hf
          simp only [h0, Nat.lt_irrefl, decide_false, Bool.not_false, cond_true, if_true, nkm, fam, lx_at (wk_lx hn), Option.bind_some]
          rw [show ((1202 : Int)) = ((1202 : Nat) : Int) from rfl, hf]
          exact ⟨_, _, _, rfl, wk_ls h1, hkw⟩
        · have hpos : 0 < bl (s.data.toList.drop a) := by omega
          simp only [hpos, decide_true, Bool.not_true, cond_false, h0, if_false]
          have hat := attr_walk (wk_ls (a := a1) (c := 0) (b := 0) (t := ⟨6, [], [], a1⟩) h1) hs (by omega) (by omega)
          cases hr : attrM s.data.toList a1 with
          | error e =>
            rw [hr] at hat
            obtain ⟨st', a', ts', k1, k2, k3⟩ := hat
            simp only [k1, Option.bind_some, Out.on, asB, Bool.not_false, cond_true]
            exact ⟨_, _, _, rfl, k2, hkw.trans k3⟩
          | ok r =>
            rw [hr] at hat
            obtain ⟨st', k1, k2, k3⟩ := hat
            have e1 := attr_lt hr
            have e2 := attrM_len hr
            rw [← size_list] at e1
            have nx := ih r.2 st' (ts ++ r.1) k2 (by omega) (by omega) (by rw [List.length_append]; omega)
            simp only [k1, Option.bind_some, Out.on, asB, Bool.not_true, cond_false]
            cases hz : attrsM m s.data.toList r.2 with
            | error e =>
              rw [hz] at nx
              obtain ⟨st'', a', ts', j1, j2, j3⟩ := nx
              exact ⟨_, _, _, j1, j2, hkw.trans (k3.trans j3)⟩
            | ok z =>
              rw [hz] at nx
              obtain ⟨st'', j1, j2, j3⟩ := nx
              rw [List.append_assoc] at j2
              exact ⟨_, j1, j2, hkw.trans (k3.trans j3)⟩

theorem tag_walk (h : LS n s st a 0 0 ts) (hs : s.size ≤ 65536) (hts : ts.length ≤ a) (hp : pre [60] (s.data.toList.drop a) = true) :
    Post n s st ts (tagM s.data.toList a) (CallR ap 30 [.mp n 0 0, .yl (n + 3)] st) := by
  rw [lex_lexer_tag.call]
  refine post_of h ?_
  have hn : n < st.length := by have := h.lt; omega
  have hl := pre_drop hp
  simp only [List.length_cons, List.length_nil, ← size_list, List.cons_ne_nil, or_false] at hl
  have hw : IntKind.wrap .i64 (((a : Nat) : Int) + 1) = ((a + 1 : Nat) : Int) := w64 _ (by omega) (by omega)
  have hi := is_spec (wk_lx (s := s) (a := a + 1) (c := 0) (b := 0) (t := ⟨3, [], [], a⟩) hn) (by omega) ⟨#[47]⟩
  rw [show (ByteArray.mk #[47]).data.toList = [47] from rfl] at hi
  have hkw : ∀ {a c b : Nat} {t : Tk}, Keeps n st (wk st n s a c b t) := fun {a c b t} => wk_keeps hn
  rw [lex_lexer_tag.b_eq]
  simp only [nkm, fam, lx_at h.lx, Option.bind_some, L_open1, wk_new h.lx, lx_at (wk_lx hn), asI, if_true, hw, lx_sat (wk_lx hn), wk_set hn, hi, Out.on, asB]
  unfold tagM
  cases h47 : pre [47] (s.data.toList.drop (a + 1)) with
  | true =>
    have hl2 := pre_drop h47
    simp only [List.length_cons, List.length_nil, ← size_list, List.cons_ne_nil, or_false] at hl2
    have hw2 : IntKind.wrap .i64 (((a + 1 : Nat) : Int) + 1) = ((a + 2 : Nat) : Int) := w64 _ (by omega) (by omega)
    have hst := wk_skind (st := st) (n := n) (s := s) (a := a + 1) (c := 0) (b := 0) (t := ⟨3, [], [], a⟩) 8
    rw [show (((8 : Nat) : Int)) = 8 from rfl] at hst
    simp only [cond_true, if_true, hst, Option.bind_some, nkm, fam, lx_at (wk_lx hn), asI, hw2, lx_sat (wk_lx hn), wk_set hn]
    rw [lex_lexer_tag.p10111_eq]
    have hnw := name_wk (c := 0) (b := 0) hn ⟨8, [], [], a⟩ (a := a + 2) (by omega) hs
    cases hb : badN (s.data.toList.drop (a + 2)) with
    | true =>
      rw [hb] at hnw
      simp only [if_true] at hnw
      have hsn := wk_sname (st := st) (n := n) (s := s) (a := a + 2 + nm (s.data.toList.drop (a + 2))) (c := 1202) (b := a + 2) (t := ⟨8, [], [], a⟩) []
      simp only [hnw, Option.bind_some, badName, Out.on, ext, List.getElem?_cons_zero, List.getElem?_cons_succ, show (AV.str ⟨#[]⟩) = .str (mk []) from rfl, hsn, asB, Bool.not_false, cond_true, if_true]
      exact ⟨_, _, _, rfl, wk_ls h, hkw⟩
    | false =>
      rw [hb] at hnw
      simp only [Bool.false_eq_true, if_false] at hnw ⊢
      obtain ⟨hpos, _, hle⟩ := badN_false hb
      rw [List.length_drop, ← size_list] at hle
      have hsn := wk_sname (st := st) (n := n) (s := s) (a := a + 2 + nm (s.data.toList.drop (a + 2))) (c := 0) (b := 0) (t := ⟨8, [], [], a⟩) ((s.data.toList.drop (a + 2)).take (nm (s.data.toList.drop (a + 2))))
      unfold close2
      obtain ⟨x, hx⟩ : ∃ x, x = (s.data.toList.drop (a + 2)).take (nm (s.data.toList.drop (a + 2))) := ⟨_, rfl⟩
      rw [← hx] at hnw hsn ⊢
      obtain ⟨a2, ha2⟩ : ∃ a2, a2 = a + 2 + nm (s.data.toList.drop (a + 2)) := ⟨_, rfl⟩
      rw [← ha2] at hnw hsn ⊢
      have hble := bl_le (s.data.toList.drop a2)
      rw [drop_len] at hble
      have hbl := blanks_spec (wk_lx (s := s) (a := a2) (c := 0) (b := 0) (t := ⟨8, x, [], a⟩) hn) (by omega) hs
      rw [wk_set hn] at hbl
      have hwt := want_wk (c := 0) (b := 0) hn ⟨8, x, [], a⟩ (a := a2 + bl (s.data.toList.drop a2)) (by omega) hs ⟨#[62]⟩ (by decide)
      rw [show (ByteArray.mk #[62]).data.toList = [62] from rfl, show (ByteArray.mk #[62]).size = 1 from rfl] at hwt
      have h88 : (decide ((((8 : Nat) : Int)) = 8)) = true := rfl
      simp only [hnw, Option.bind_some, Out.on, ext, List.getElem?_cons_zero, List.getElem?_cons_succ, hsn, asB, Bool.not_true, cond_false, wk_kind, asI, if_true, h88, cond_true, hbl, hwt]
      cases h62 : pre [62] (s.data.toList.drop (a2 + bl (s.data.toList.drop a2))) with
      | true =>
        obtain ⟨st', y1, y2, y3⟩ := yield_spec (wk_ls (a := a2 + bl (s.data.toList.drop a2) + 1) (c := 0) (b := 0) (t := ⟨8, x, [], a⟩) h) (by omega) ⟨8, x, [], a⟩
        simp only [guardT, Option.bind_some, gOn, cond_true, if_true, wk_all, inv_yl, y1, Out.on, asB]
        exact ⟨_, rfl, y2, hkw.trans y3⟩
      | false =>
        simp only [guardT, Option.bind_some, gOn, cond_false, Bool.false_eq_true, if_false]
        exact ⟨_, _, _, rfl, wk_ls h, hkw⟩
  | false =>
    simp only [cond_false, Bool.false_eq_true, if_false]
    rw [lex_lexer_tag.p10111_eq]
    have hnw := name_wk (c := 0) (b := 0) hn ⟨3, [], [], a⟩ (a := a + 1) (by omega) hs
    cases hb : badN (s.data.toList.drop (a + 1)) with
    | true =>
      rw [hb] at hnw
      simp only [if_true] at hnw
      have hsn := wk_sname (st := st) (n := n) (s := s) (a := a + 1 + nm (s.data.toList.drop (a + 1))) (c := 1202) (b := a + 1) (t := ⟨3, [], [], a⟩) []
      simp only [hnw, Option.bind_some, badName, Out.on, ext, List.getElem?_cons_zero, List.getElem?_cons_succ, show (AV.str ⟨#[]⟩) = .str (mk []) from rfl, hsn, asB, Bool.not_false, cond_true, if_true]
      exact ⟨_, _, _, rfl, wk_ls h, hkw⟩
    | false =>
      rw [hb] at hnw
      simp only [Bool.false_eq_true, if_false] at hnw ⊢
      obtain ⟨hpos, _, hle⟩ := badN_false hb
      rw [List.length_drop, ← size_list] at hle
      have hsn := wk_sname (st := st) (n := n) (s := s) (a := a + 1 + nm (s.data.toList.drop (a + 1))) (c := 0) (b := 0) (t := ⟨3, [], [], a⟩) ((s.data.toList.drop (a + 1)).take (nm (s.data.toList.drop (a + 1))))
      unfold open2
      obtain ⟨x, hx⟩ : ∃ x, x = (s.data.toList.drop (a + 1)).take (nm (s.data.toList.drop (a + 1))) := ⟨_, rfl⟩
      rw [← hx] at hnw hsn ⊢
      obtain ⟨a2, ha2⟩ : ∃ a2, a2 = a + 1 + nm (s.data.toList.drop (a + 1)) := ⟨_, rfl⟩
      rw [← ha2] at hnw hsn ⊢
      have h38 : (decide ((((3 : Nat) : Int)) = 8)) = false := rfl
      obtain ⟨st', y1, y2, y3⟩ := yield_spec (wk_ls (a := a2) (c := 0) (b := 0) (t := ⟨3, x, [], a⟩) h) (by omega) ⟨3, x, [], a⟩
      simp only [hnw, Option.bind_some, Out.on, ext, List.getElem?_cons_zero, List.getElem?_cons_succ, hsn, asB, Bool.not_true, cond_false, wk_kind, asI, if_true, h38, wk_all, inv_yl, y1]
      have nx := attrs_walk hs (s.data.toList.length + 1) a2 st' _ y2 (by rw [← size_list]; omega) (by omega) (by rw [List.length_append]; simp only [List.length_cons, List.length_nil]; omega)
      cases hz : attrsM (s.data.toList.length + 1) s.data.toList a2 with
      | error e =>
        rw [hz] at nx
        obtain ⟨st'', a', ts', j1, j2, j3⟩ := nx
        exact ⟨_, _, _, j1, j2, hkw.trans (y3.trans j3)⟩
      | ok z =>
        rw [hz] at nx
        obtain ⟨st'', j1, j2, j3⟩ := nx
        rw [List.append_assoc] at j2
        exact ⟨_, j1, j2, hkw.trans (y3.trans j3)⟩

/-- What is asked of all the tokens. -/
def PostT (n : Nat) (s : ByteArray) (st : Sto) (ts : List Tk) (R : Except (Nat × Nat) (List Tk)) (o : Option Res) : Prop := match R with
  | .error e => ∃ st' a' ts', o = some ⟨.ret (.tup []), none, st'⟩ ∧ LS n s st' a' e.1 e.2 ts' ∧ Keeps n st st'
  | .ok z => ∃ st' a', o = some ⟨.ret (.tup []), none, st'⟩ ∧ LS n s st' a' 0 0 (ts ++ z) ∧ Keeps n st st'

theorem inv_29 (n m : Nat) (st : Sto) : invokeA ap (CallR ap) (.fn (.func 29) [.mp n 0 0] []) [.yl m] st = CallR ap 29 [.mp n 0 0, .yl m] st := rfl
theorem inv_30 (n m : Nat) (st : Sto) : invokeA ap (CallR ap) (.fn (.func 30) [.mp n 0 0] []) [.yl m] st = CallR ap 30 [.mp n 0 0, .yl m] st := rfl
theorem inv_27 (n m : Nat) (st : Sto) : invokeA ap (CallR ap) (.fn (.func 27) [.mp n 0 0] []) [.yl m] st = CallR ap 27 [.mp n 0 0, .yl m] st := rfl

theorem lex_walk (hs : s.size ≤ 65536) : ∀ (m a : Nat) (st : Sto) (ts : List Tk), LS n s st a 0 0 ts → s.size < a + m → a ≤ s.size → ts.length ≤ a →
    PostT n s st ts (lexM m s.data.toList a) (lex_lexer_tokens_1.p00 (.yl (n + 3)) (.mp (n + 2) 0 0) st) := by
  intro m
  induction m with
  | zero => intro a st ts h h1 h2; omega
  | succ m ih =>
    intro a st ts h hm ha hts
    have hv : ld false 1 st (.mp (n + 2) 0 0) = some (.mp n 0 0) := m_get (n := 0) h.lv rfl
    rw [lex_lexer_tokens_1.p00_eq]
    simp only [hv, Option.bind_some, nkm, fam, lx_at h.lx, lx_s h.lx, asS, asI, if_true, lexM, ← size_list]
    by_cases hlt : a < s.size
    · have hlt' : ((a : Int) < ((s.size : Nat) : Int)) := by omega
      have hge : ¬ s.size ≤ a := by omega
      have key : ∀ f : AV, Post n s st ts (stepM s.data.toList a) (invokeA ap (CallR ap) f [.yl (n + 3)] st) →
          PostT n s st ts (match stepM s.data.toList a with
            | .error e => .error e
            | .ok r => match lexM m s.data.toList r.2 with
              | .error e => .error e
              | .ok z => .ok (r.1 ++ z)) (lex_lexer_tokens_1.p001011 (.yl (n + 3)) (.mp (n + 2) 0 0) f st) := by
        intro f hf
        rw [lex_lexer_tokens_1.p001011_eq]
        cases hr : stepM s.data.toList a with
        | error e =>
          rw [hr] at hf
          obtain ⟨st', a', ts', k1, k2, k3⟩ := hf
          simp only [k1, Option.bind_some, Out.on, asB, Bool.not_false, cond_true]
          exact ⟨_, _, _, rfl, k2, k3⟩
        | ok r =>
          rw [hr] at hf
          obtain ⟨st', k1, k2, k3⟩ := hf
          have e1 := step_lt (by rw [← size_list]; exact hlt) hr
          have e2 := stepM_len (by rw [← size_list]; exact hlt) hr
          rw [← size_list] at e1
          have nx := ih r.2 st' (ts ++ r.1) k2 (by omega) (by omega) (by rw [List.length_append]; omega)
          simp only [k1, Option.bind_some, Out.on, asB, Bool.not_true, cond_false]
          cases hz : lexM m s.data.toList r.2 with
          | error e =>
            rw [hz] at nx
            obtain ⟨st'', a', ts', j1, j2, j3⟩ := nx
            exact ⟨_, _, _, j1, j2, k3.trans j3⟩
          | ok z =>
            rw [hz] at nx
            obtain ⟨st'', a', j1, j2, j3⟩ := nx
            rw [List.append_assoc] at j2
            exact ⟨_, _, j1, j2, k3.trans j3⟩
      have hi1 := is_spec h.lx ha ⟨#[123, 123]⟩
      rw [show (ByteArray.mk #[123, 123]).data.toList = [123, 123] from rfl] at hi1
      have hi2 := is_spec h.lx ha ⟨#[60]⟩
      rw [show (ByteArray.mk #[60]).data.toList = [60] from rfl] at hi2
      simp only [hlt', decide_true, cond_true, hge, if_false, hi1, hi2, Option.bind_some, Out.on, asB]
      cases h123 : pre [123, 123] (s.data.toList.drop a) with
      | true =>
        simp only [cond_true, hv, Option.bind_some]
        refine key _ ?_
        rw [inv_29]
        have := hole_walk h hs (by omega) h123
        simpa only [stepM, h123, if_true] using this
      | false =>
        cases h60 : pre [60] (s.data.toList.drop a) with
        | true =>
          simp only [cond_true, cond_false, hv, Option.bind_some, hi2, h60, Out.on, asB]
          refine key _ ?_
          rw [inv_30]
          have := tag_walk h hs hts h60
          simpa only [stepM, h123, h60, if_true, Bool.false_eq_true, if_false] using this
        | false =>
          simp only [cond_false, hv, Option.bind_some, hi2, h60, Out.on, asB]
          refine key _ ?_
          rw [inv_27]
          have := text_walk h hs (by omega) ha
          simpa only [stepM, h123, h60, Bool.false_eq_true, if_false] using this
    · have hlt' : ¬ ((a : Int) < ((s.size : Nat) : Int)) := by omega
      have hge : s.size ≤ a := by omega
      simp only [hlt', decide_false, cond_false, hge, if_true]
      refine ⟨_, a, rfl, ?_, Keeps.refl _ _⟩
      rw [List.append_nil]
      exact h
end
end Go.Proofs.YtigdijdpggjpiaaDoor
