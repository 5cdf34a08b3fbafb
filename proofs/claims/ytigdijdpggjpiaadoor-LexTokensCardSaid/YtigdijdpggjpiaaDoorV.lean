/- The lexer's walk: Lex. -/
import Derived.Test.YtigdijdpggjpiaaDoorT
namespace Go.Proofs.YtigdijdpggjpiaaDoor
open Go.St Go.Lib
set_option linter.unusedVariables false
set_option linter.unusedSimpArgs false

/-! ### Faults -/
def okE (L : List UInt8) (e : Nat × Nat) : Prop := 1201 ≤ e.1 ∧ e.1 ≤ 1205 ∧ e.2 ≤ L.length
theorem pre1 {L : List UInt8} {a : Nat} {c : UInt8} (h : pre [c] (L.drop a) = true) : a + 1 ≤ L.length := by
  have := pre_drop h
  simpa using this
theorem plM_err {sub : List UInt8} {f p : Nat} {q : Bool} {e : Nat × Nat} (h : plM sub f p q = .error e) : (e.1 = 1204 ∧ e.2 ≤ f + sub.length) ∨ (e.1 = 1201 ∧ e.2 = p) := by
  unfold plM at h
  have := (pl_le sub.length sub 0 [] (Nat.le_refl _)).1
  split at h
  · rename_i k hk
    rw [hk] at this
    cases h
    left
    refine ⟨rfl, ?_⟩
    simp only at *
    omega
  · split at h
    · cases h
      exact .inr ⟨rfl, rfl⟩
    · cases h
theorem attrM_err {L : List UInt8} {a : Nat} (ha : a ≤ L.length) {e : Nat × Nat} (h : attrM L a = .error e) : okE L e := by
  have hc : a + colon L a ≤ L.length := by
    unfold colon
    split
    · rename_i hp
      exact pre1 hp
    · omega
  unfold attrM at h
  split at h
  · cases h
    exact ⟨by simp, by simp, hc⟩
  · rename_i hb
    obtain ⟨h1, _, h2⟩ := badN_false (by simpa using hb)
    rw [List.length_drop] at h2
    unfold attr2 at h
    split at h
    · cases h
      exact ⟨by simp, by simp, by simp only; omega⟩
    · rename_i hp
      have e1 := pre1 (by simpa using hp)
      split at h
      · cases h
        exact ⟨by simp, by simp, e1⟩
      · split at h
        · cases h
          exact ⟨by simp, by simp, e1⟩
        · rename_i hi
          have h3 := indexByte_lt hi
          rw [List.length_drop] at h3
          split at h
          · rename_i e' he
            cases h
            rcases plM_err he with ⟨k1, k2⟩ | ⟨k1, k2⟩
            · rw [List.length_take, List.length_drop] at k2
              exact ⟨by omega, by omega, by omega⟩
            · exact ⟨by omega, by omega, by omega⟩
          · cases h
theorem attrsM_err {L : List UInt8} : ∀ {m a : Nat}, L.length < a + m → a ≤ L.length → ∀ {e : Nat × Nat}, attrsM m L a = .error e → okE L e := by
  intro m
  induction m with
  | zero => intro a h1 h2; omega
  | succ m ih =>
    intro a h1 h2 e h
    have hb := bl_le (L.drop a)
    rw [List.length_drop] at hb
    simp only [attrsM] at h
    split at h
    · rename_i hp
      have := pre1 hp
      split at h
      · cases h
      · cases h
        exact ⟨by simp, by simp, this⟩
    · split at h
      · cases h
      · split at h
        · cases h
          exact ⟨by simp, by simp, by simp only; omega⟩
        · cases ha : attrM L (a + bl (L.drop a)) with
          | error e' =>
            rw [ha] at h
            cases h
            exact attrM_err (by omega) ha
          | ok x =>
            rw [ha] at h
            have h3 := attr_lt ha
            cases hz : attrsM m L x.2 with
            | error e' =>
              simp only [hz] at h
              cases h
              exact ih (by omega) (by omega) hz
            | ok z =>
              simp only [hz] at h
              cases h
theorem stepM_err {L : List UInt8} {a : Nat} (ha : a < L.length) {e : Nat × Nat} (h : stepM L a = .error e) : okE L e := by
  unfold stepM at h
  split at h
  · unfold holeM at h
    split at h
    · cases h
      exact ⟨by simp, by simp, by simp only; omega⟩
    · cases h
  · split at h
    · rename_i hp
      unfold tagM at h
      split at h
      · rename_i hq
        have e1 := pre1 hq
        split at h
        · cases h
          exact ⟨by simp, by simp, e1⟩
        · rename_i hb
          obtain ⟨h1, _, h2⟩ := badN_false (by simpa using hb)
          rw [List.length_drop] at h2
          unfold close2 at h
          split at h
          · cases h
          · have hl := bl_le (L.drop (a + 2 + nm (L.drop (a + 2))))
            rw [List.length_drop] at hl
            cases h
            exact ⟨by simp, by simp, by simp only; omega⟩
      · split at h
        · cases h
          exact ⟨by simp, by simp, by simp only; omega⟩
        · rename_i hb
          obtain ⟨h1, _, h2⟩ := badN_false (by simpa using hb)
          rw [List.length_drop] at h2
          unfold open2 at h
          split at h
          · rename_i e' he
            cases h
            exact attrsM_err (by omega) (by omega) he
          · cases h
    · unfold textM at h
      have := txN_le (L.drop a)
      rw [List.length_drop] at this
      split at h
      · rename_i e' he
        cases h
        rcases plM_err he with ⟨k1, k2⟩ | ⟨k1, k2⟩
        · rw [List.length_take, List.length_drop] at k2
          exact ⟨by omega, by omega, by omega⟩
        · exact ⟨by omega, by omega, by omega⟩
      · cases h
theorem lexM_err {L : List UInt8} : ∀ {m a : Nat}, L.length < a + m → a ≤ L.length → ∀ {e : Nat × Nat}, lexM m L a = .error e → okE L e := by
  intro m
  induction m with
  | zero => intro a h1 h2; omega
  | succ m ih =>
    intro a h1 h2 e h
    simp only [lexM] at h
    split at h
    · cases h
    · cases ha : stepM L a with
      | error e' =>
        rw [ha] at h
        cases h
        exact stepM_err (by omega) ha
      | ok x =>
        rw [ha] at h
        have h3 := step_lt (by omega) ha
        cases hz : lexM m L x.2 with
        | error e' =>
          simp only [hz] at h
          cases h
          exact ih (by omega) (by omega) hz
        | ok z =>
          simp only [hz] at h
          cases h

/-! ### Lex -/
def lexR (s : ByteArray) (r : Option Nat) : Except (Nat × Nat) (List Tk) :=
  if 65536 < s.size then .error (1201, 0) else match r with
    | some a => .error (1200, a)
    | none => lexM (s.size + 1) s.data.toList 0
/-- A row of tokens, not frozen. -/
def Row (n : Nat) (st : Sto) (x : AV) (ts : List Tk) : Prop := (x = .nils ∧ ts = []) ∨ ∃ id g, n ≤ id ∧ x = .ms id g 0 ts.length 4 ∧ st[id]? = some (.cells g (tcells ts) 0)
def PostL (st : Sto) (R : Except (Nat × Nat) (List Tk)) (o : Option (Out × Sto)) : Prop := match R with
  | .error e => o = some (.ret (.tup [.nils, .int .i64 (e.2 : Nat), .int .i64 (e.1 : Nat)]), st)
  | .ok ts => ∃ x st', o = some (.ret (.tup [x, .int .i64 0, .int .i64 0]), st') ∧ Row st.length st' x ts ∧ Keeps st.length st st'

theorem tokens_spec (st : Sto) (n : Nat) : CallR ap 17 [.mp n 0 0] st = some (.ret (.fn (.func 26) [] [.mp st.length 0 0]), st ++ [.cells 0 [.mp n 0 0] 0]) := by
  rw [lex_lexer_tokens.call, lex_lexer_tokens.b_eq]
  simp only [AV.cells, List.all_cons, List.all_nil, AV.isCell, Bool.and_self, if_true, Option.bind_some]
  have : ¬ (((Out.ret (AV.fn (.func 26) [] [.mp st.length 0 0])).val.strip st.length).old st.length = true ∧ st.length ≤ (st ++ [Ob.cells 0 [.mp n 0 0] 0]).length ∧ Kept st.length st (st ++ [Ob.cells 0 [.mp n 0 0] 0])) := by
    rintro ⟨h, _⟩
    simp [Out.val, AV.strip, strips, AV.old, olds] at h
  unfold gc
  exact congrArg some (if_neg this)

theorem range_26 (n m : Nat) (st : Sto) : rangeA ap (CallR ap) (.fn (.func 26) [] [.mp n 0 0]) [.yl m] st = CallR ap 26 [.yl m, .mp n 0 0] st := rfl

theorem lex_spec {s : ByteArray} (hs : s.size < 4611686018427387904) {r : Option Nat} (h : Scan s 0 r) (st : Sto) : PostL st (lexR s r) (CallR ap 7 [.str s] st) := by
  rw [lex_Lex.call]
  unfold lexR
  by_cases hbig : 65536 < s.size
  · have e : ((65536 : Int) < ((s.size : Nat) : Int)) := by omega
    rw [if_pos hbig]
    refine ret_keep ?_ rfl rfl (Keeps.refl _ _)
    rw [lex_Lex.b_eq]
    simp only [e, decide_true, cond_true]
    rfl
  · have e : ¬ ((65536 : Int) < ((s.size : Nat) : Int)) := by omega
    have hv := valid_spec (by omega) h st
    rw [if_neg hbig]
    cases r with
    | some a =>
      refine ret_keep ?_ rfl rfl (Keeps.refl _ _)
      rw [lex_Lex.b_eq]
      simp only [e, decide_false, cond_false, hv, Option.bind_some, validOut, Out.on, ext, List.getElem?_cons_zero, List.getElem?_cons_succ, asI, if_true, show decide ((300 : Int) = 0) = false from rfl, Bool.not_false, cond_true]
      rfl
    | none =>
      obtain ⟨n, hn⟩ : ∃ n, n = st.length := ⟨_, rfl⟩
      obtain ⟨st1, hst1⟩ : ∃ st1, st1 = (st ++ [LX s 0 0 0]) ++ [Ob.cells 0 [.nils] 0] := ⟨_, rfl⟩
      have hl1 : st1.length = n + 2 := by rw [hst1, hn]; simp
      have htok := tokens_spec st1 n
      rw [hl1] at htok
      obtain ⟨st2, hst2⟩ : ∃ st2, st2 = (st1 ++ [Ob.cells 0 [.mp n 0 0] 0]) ++ [Ob.loop (lex_Lex.lp11111010 0 0 n (n + 1) (lpV n) .ready none)] := ⟨_, rfl⟩
      have hl2 : (st1 ++ [Ob.cells 0 [AV.mp n 0 0] 0]).length = n + 3 := by simp [hl1]
      have hag : aggA (fillA (fun i => ([(0, 1), (1, 1), (2, 1), (3, 1)] : List (Nat × Nat))[i]?) [.str ⟨#[]⟩, .int .i64 0, .int .i64 0, .int .i64 0] [(0, (.str s))]) = some (.agg [.str s, .int .i64 0, .int .i64 0, .int .i64 0]) := rfl
      have start : lex_Lex.b s st = lex_Lex.p11111010 0 0 n (n + 1) (lpV n) (st1 ++ [Ob.cells 0 [.mp n 0 0] 0]) := by
        have e1 : (st ++ [Ob.cells 0 [AV.str s, .int .i64 0, .int .i64 0, .int .i64 0] 0]).length = n + 1 := by rw [hn]; simp
        have e2 : (st ++ [Ob.cells 0 [AV.str s, .int .i64 0, .int .i64 0, .int .i64 0] 0]) ++ [Ob.cells 0 [.nils] 0] = st1 := by rw [hst1]; rfl
        rw [lex_Lex.b_eq]
        simp only [e, decide_false, cond_false, hv, Option.bind_some, validOut, Out.on, ext, List.getElem?_cons_zero, List.getElem?_cons_succ, asI, if_true, show decide ((0 : Int) = 0) = true from rfl, Bool.not_true, hag]
        simp only [AV.cells, show ([AV.str s, AV.int .i64 0, AV.int .i64 0, AV.int .i64 0].all AV.isCell) = true from rfl, if_true, e1, e2, ← hn, htok, Option.bind_some]
        rfl
      have h2 : LS n s st2 0 0 0 [] := by
        refine ⟨?_, ?_, ?_, .nils, ?_, .inl ⟨rfl, rfl⟩⟩
        · rw [hst2, hst1, hn]
          refine app_at (app_at (app_at ?_))
          simp
        · rw [hst2]
          refine app_at ?_
          rw [← hl1]
          simp
        · rw [hst2, ← hl2]
          simp
        · rw [hst2]
          refine app_at (app_at ?_)
          rw [hst1, show n + 1 = (st ++ [LX s 0 0 0]).length by simp [hn]]
          simp
      have hk0 : Keeps n st st2 := by
        rw [hst2, hst1, hn]
        exact (Keeps.app (Nat.le_refl _)).trans ((Keeps.app (by simp)).trans ((Keeps.app (by simp)).trans (Keeps.app (by simp))))
      have hw := lex_walk (by omega) (s.size + 1) 0 st2 [] h2 (by omega) (Nat.zero_le _) (by simp)
      have loop : CallR ap 26 [.yl (n + 3), .mp (n + 2) 0 0] st2 = (lex_lexer_tokens_1.p00 (.yl (n + 3)) (.mp (n + 2) 0 0) st2).bind fun r => some (gc st2 (r.out, r.st)) := by
        rw [lex_lexer_tokens_1.call, lex_lexer_tokens_1.b_eq]
      have hend : ∀ {st3 : Sto} {a c b : Nat} {ts : List Tk}, LS n s st3 a c b ts → lpEnd st3 (n + 3) = some (none, st3.set (n + 3) (.loop (lex_Lex.lp11111010 0 0 n (n + 1) (lpV n) .exhausted none))) := by
        intro st3 a c b ts h3
        unfold lpEnd
        rw [h3.lp]
        rfl
      have hmark : ∀ {st3 : Sto} {a c b : Nat} {ts : List Tk}, LS n s st3 a c b ts → endMarks [⟨.yl (n + 3), []⟩] (st3.set (n + 3) (.loop (lex_Lex.lp11111010 0 0 n (n + 1) (lpV n) .exhausted none))) = some (st3.set (n + 3) .dead) := by
        intro st3 a c b ts h3
        simp only [endMarks, List.getElem?_set_self h3.lt, List.set_set]
      cases hr : lexM (s.size + 1) s.data.toList 0 with
      | error e1 =>
        rw [hr] at hw
        obtain ⟨st3, a', ts', k1, k2, k3⟩ := hw
        obtain ⟨st4, j1, j2, j3⟩ := h2.gc k2 k3 (v := .tup []) rfl
        have hne := lexM_err (by rw [← size_list]; omega) (Nat.zero_le _) hr
        have l1 := set_at (j := n + 3) (p := .loop (lex_Lex.lp11111010 0 0 n (n + 1) (lpV n) .exhausted none)) j2.lx (by omega)
        have hne' : decide (((e1.1 : Nat) : Int) = 0) = false := decide_eq_false (by have := hne.1; omega)
        refine ret_keep (st' := st4.set (n + 3) .dead) ?_ rfl rfl ?_
        · rw [start, lex_Lex.p11111010_eq, hl2, ← hst2, show lpV n = .fn (.func 26) [] [.mp (n + 2) 0 0] from rfl, range_26, loop, k1]
          simp only [Option.bind_some, j1, Out.on, hend j2, jOn, lx_code l1, lx_bad l1, asI, if_true, hne', Bool.not_false, cond_true, hmark j2]
        · rw [← hn]
          exact hk0.trans (j3.trans (Keeps.set (by omega)))
      | ok z =>
        rw [hr] at hw
        obtain ⟨st3, a', k1, k2, k3⟩ := hw
        obtain ⟨st4, j1, j2, j3⟩ := h2.gc k2 k3 (v := .tup []) rfl
        rw [List.nil_append] at j2
        obtain ⟨x, o1, o2⟩ := j2.out
        have l1 := set_at (j := n + 3) (p := .loop (lex_Lex.lp11111010 0 0 n (n + 1) (lpV n) .exhausted none)) j2.lx (by omega)
        have l2 := set_at (j := n + 3) (p := .loop (lex_Lex.lp11111010 0 0 n (n + 1) (lpV n) .exhausted none)) o1 (by omega)
        have hrun : lex_Lex.b s st = some ⟨.ret (.tup [x, .int .i64 0, .int .i64 0]), none, st4.set (n + 3) .dead⟩ := by
          rw [start, lex_Lex.p11111010_eq, hl2, ← hst2, show lpV n = .fn (.func 26) [] [.mp (n + 2) 0 0] from rfl, range_26, loop, k1]
          simp only [Option.bind_some, j1, Out.on, hend j2, jOn, lx_code l1, m_get (n := 0) l2 rfl, asI, if_true, Int.ofNat_zero, decide_true, Bool.not_true, cond_false, hmark j2]
        have hkk : Keeps n st (st4.set (n + 3) .dead) := hk0.trans (j3.trans (Keeps.set (by omega)))
        rcases o2 with ⟨rfl, rfl⟩ | ⟨id, g, o3, rfl, o4⟩
        · exact ⟨.nils, st, ret_keep hrun rfl rfl (by rw [← hn]; exact hkk), .inl ⟨rfl, rfl⟩, Keeps.refl _ _⟩
        · refine ⟨_, st4.set (n + 3) .dead, ?_, .inr ⟨id, g, by omega, rfl, set_at o4 (by omega)⟩, by rw [← hn]; exact hkk⟩
          rw [hrun]
          have : ¬ (((Out.ret (AV.tup [.ms id g 0 z.length 4, .int .i64 0, .int .i64 0])).val.strip st.length).old st.length = true ∧ st.length ≤ (st4.set (n + 3) .dead).length ∧ Kept st.length st (st4.set (n + 3) .dead)) := by
            rintro ⟨h, _⟩
            simp [Out.val, AV.strip, strips, AV.old, olds] at h
            omega
          simp only [Option.bind_some]
          unfold gc
          exact congrArg some (if_neg this)
end Go.Proofs.YtigdijdpggjpiaaDoor
