/- The lexer: what it gives. -/
import Derived.Test.YtigdijdpggjpiaaDoorX
namespace Go.Proofs.YtigdijdpggjpiaaDoor
open Go.St Go.Lib
set_option linter.unusedVariables false
set_option linter.unusedSimpArgs false

/-! ### The plain lexer -/
structure Tk where
  kind : Nat
  name : List UInt8
  text : List UInt8
  at_ : Nat
  deriving DecidableEq

def tcell (t : Tk) : List AV := [.int .i64 (t.kind : Nat), .str (mk t.name), .str (mk t.text), .int .i64 (t.at_ : Nat)]
def tcells : List Tk → List AV
  | [] => []
  | t :: r => tcell t ++ tcells r
theorem tcells_app (a b : List Tk) : tcells (a ++ b) = tcells a ++ tcells b := by
  induction a with
  | nil => rfl
  | cons t r ih => simp only [List.cons_append, tcells, ih, List.append_assoc]
theorem tcells_len (a : List Tk) : (tcells a).length = a.length * 4 := by
  induction a with
  | nil => rfl
  | cons t r ih => simp only [tcells, List.length_append, ih, List.length_cons]; simp only [tcell, List.length_cons, List.length_nil]; omega

def ixN (l sub : List UInt8) : Nat := if Lib.index l sub < 0 then l.length else (Lib.index l sub).toNat
theorem ixN_cons (b : UInt8) (l sub : List UInt8) (h : sub ≠ []) : ixN (b :: l) sub = if pre sub (b :: l) = true then 0 else ixN l sub + 1 := by
  have hge := Lib.index_ge l sub
  unfold ixN pre
  simp only [Lib.index]
  by_cases hp : sub.isPrefixOf (b :: l) = true
  · simp [hp]
  · simp only [hp, Bool.false_eq_true, if_false]
    by_cases h1 : Lib.index l sub = -1
    · simp [h1]
    · have : (Lib.index l sub == -1) = false := by simpa using h1
      simp only [this, Bool.false_eq_true, if_false]
      have h2 : ¬ Lib.index l sub < 0 := by omega
      have h3 : ¬ Lib.index l sub + 1 < 0 := by omega
      rw [if_neg h2, if_neg h3]
      omega
theorem ixN_le (l sub : List UInt8) (h : sub ≠ []) : ixN l sub ≤ l.length := by
  induction l with
  | nil =>
    unfold ixN
    simp only [Lib.index]
    cases sub with
    | nil => exact absurd rfl h
    | cons => simp
  | cons b l ih =>
    rw [ixN_cons b l sub h]
    simp only [List.length_cons]
    split <;> omega

/-- How long is the plain text here? -/
def txN : List UInt8 → Nat
  | [] => 0
  | c :: r => if c = 60 ∨ pre [123, 123] (c :: r) = true then 0 else txN r + 1
theorem txN_eq (l : List UInt8) : txN l = ixN (l.take (ixN l [60])) [123, 123] := by
  induction l with
  | nil => rfl
  | cons c r ih =>
    rw [ixN_cons c r [60] (by simp)]
    have h1 : pre [60] (c :: r) = decide (c = 60) := by
      simp only [pre, List.isPrefixOf, Bool.and_true]
      rw [Bool.eq_iff_iff, beq_iff_eq, decide_eq_true_eq]
      exact eq_comm
    rw [h1]
    by_cases hc : c = 60
    · subst hc
      simp [txN, ixN, Lib.index]
    · simp only [hc, decide_false, Bool.false_eq_true, if_false, List.take_succ_cons, txN, false_or]
      rw [ixN_cons _ _ _ (by simp)]
      have h2 : pre [123, 123] (c :: r.take (ixN r [60])) = pre [123, 123] (c :: r) := by
        cases r with
        | nil => simp
        | cons d r' =>
          rw [ixN_cons d r' [60] (by simp)]
          have h3 : pre [60] (d :: r') = decide (d = 60) := by
            simp only [pre, List.isPrefixOf, Bool.and_true]
            rw [Bool.eq_iff_iff, beq_iff_eq, decide_eq_true_eq]
            exact eq_comm
          rw [h3]
          by_cases hd : d = 60
          · subst hd
            simp [pre, List.isPrefixOf]
          · simp [hd, pre, List.isPrefixOf]
      rw [h2, ih]
theorem txN_le (l : List UInt8) : txN l ≤ l.length := by
  induction l with
  | nil => simp [txN]
  | cons c r ih => simp only [txN, List.length_cons]; split <;> omega

abbrev LR := Except (Nat × Nat) (List Tk × Nat)

def badN (l : List UInt8) : Bool := decide (nm l = 0) || decide (32 < nm l)

def textM (L : List UInt8) (a : Nat) : LR :=
  match plM ((L.drop a).take (txN (L.drop a))) a a false with
  | .error e => .error e
  | .ok t => .ok ([⟨1, [], t, a⟩], a + txN (L.drop a))
def holeM (L : List UInt8) (a : Nat) : LR :=
  if Lib.index (L.drop (a + 2)) [125, 125] < 0 then .error (1205, a)
  else .ok ([⟨2, [], (L.drop (a + 2)).take (Lib.index (L.drop (a + 2)) [125, 125]).toNat, a⟩], a + (Lib.index (L.drop (a + 2)) [125, 125]).toNat + 4)
/-- Behind an attribute's name. -/
def attr2 (L : List UInt8) (a k a1 : Nat) : LR :=
  if pre [61] (L.drop (a1 + nm (L.drop a1))) = false then .error (1202, a1 + nm (L.drop a1))
  else if pre [34] (L.drop (a1 + nm (L.drop a1) + 1)) = false then .error (1202, a1 + nm (L.drop a1) + 1)
  else if Lib.indexByte (L.drop (a1 + nm (L.drop a1) + 1 + 1)) 34 < 0 then .error (1203, a1 + nm (L.drop a1) + 1)
  else match plM ((L.drop (a1 + nm (L.drop a1) + 1 + 1)).take (Lib.indexByte (L.drop (a1 + nm (L.drop a1) + 1 + 1)) 34).toNat) (a1 + nm (L.drop a1) + 1 + 1) (a1 + nm (L.drop a1) + 1) (decide (k = 1)) with
    | .error e => .error e
    | .ok t => .ok ([⟨4 + k, (L.drop a1).take (nm (L.drop a1)), t, a⟩], a1 + nm (L.drop a1) + 1 + 1 + ((Lib.indexByte (L.drop (a1 + nm (L.drop a1) + 1 + 1)) 34).toNat + 1))
def colon (L : List UInt8) (a : Nat) : Nat := if pre [58] (L.drop a) = true then 1 else 0
def attrM (L : List UInt8) (a : Nat) : LR :=
  if badN (L.drop (a + colon L a)) = true then .error (1202, a + colon L a) else attr2 L a (colon L a) (a + colon L a)
def attrsM : Nat → List UInt8 → Nat → LR
  | 0, _, _ => .error (0, 0)
  | m + 1, L, a =>
    if pre [47] (L.drop (a + bl (L.drop a))) = true then
      (if pre [62] (L.drop (a + bl (L.drop a) + 1)) = true then .ok ([⟨7, [], [], a + bl (L.drop a)⟩], a + bl (L.drop a) + 1 + 1) else .error (1202, a + bl (L.drop a) + 1))
    else if pre [62] (L.drop (a + bl (L.drop a))) = true then .ok ([⟨6, [], [], a + bl (L.drop a)⟩], a + bl (L.drop a) + 1)
    else if bl (L.drop a) = 0 then .error (1202, a + bl (L.drop a))
    else match attrM L (a + bl (L.drop a)) with
      | .error e => .error e
      | .ok r => match attrsM m L r.2 with
        | .error e => .error e
        | .ok z => .ok (r.1 ++ z.1, z.2)
/-- Behind a tag's name. -/
def close2 (L : List UInt8) (a a1 : Nat) : LR :=
  if pre [62] (L.drop (a1 + nm (L.drop a1) + bl (L.drop (a1 + nm (L.drop a1))))) = true then .ok ([⟨8, (L.drop a1).take (nm (L.drop a1)), [], a⟩], a1 + nm (L.drop a1) + bl (L.drop (a1 + nm (L.drop a1))) + 1)
  else .error (1202, a1 + nm (L.drop a1) + bl (L.drop (a1 + nm (L.drop a1))))
def open2 (L : List UInt8) (a a1 : Nat) : LR :=
  match attrsM (L.length + 1) L (a1 + nm (L.drop a1)) with
  | .error e => .error e
  | .ok z => .ok (⟨3, (L.drop a1).take (nm (L.drop a1)), [], a⟩ :: z.1, z.2)
def tagM (L : List UInt8) (a : Nat) : LR :=
  if pre [47] (L.drop (a + 1)) = true then (if badN (L.drop (a + 2)) = true then .error (1202, a + 2) else close2 L a (a + 2))
  else (if badN (L.drop (a + 1)) = true then .error (1202, a + 1) else open2 L a (a + 1))
def stepM (L : List UInt8) (a : Nat) : LR :=
  if pre [123, 123] (L.drop a) = true then holeM L a else if pre [60] (L.drop a) = true then tagM L a else textM L a
def lexM : Nat → List UInt8 → Nat → Except (Nat × Nat) (List Tk)
  | 0, _, _ => .error (0, 0)
  | m + 1, L, a => if L.length ≤ a then .ok [] else match stepM L a with
    | .error e => .error e
    | .ok r => match lexM m L r.2 with
      | .error e => .error e
      | .ok z => .ok (r.1 ++ z)

/-! ### Where they end -/
theorem pre_drop {w L : List UInt8} {a : Nat} (h : pre w (L.drop a) = true) : a + w.length ≤ L.length ∨ w = [] := by
  have := (List.isPrefixOf_iff_prefix.1 h).length_le
  rw [List.length_drop] at this
  cases w with
  | nil => exact .inr rfl
  | cons c r => left; simp only [List.length_cons] at *; omega
theorem index_lt {l sub : List UInt8} (h : ¬ Lib.index l sub < 0) : (Lib.index l sub).toNat + sub.length ≤ l.length := by
  induction l with
  | nil =>
    simp only [Lib.index] at h ⊢
    cases sub with
    | nil => simp
    | cons => simp at h
  | cons b l ih =>
    have hge := Lib.index_ge l sub
    simp only [Lib.index] at h ⊢
    by_cases hp : sub.isPrefixOf (b :: l) = true
    · simp only [hp, if_true] at h ⊢
      have := (List.isPrefixOf_iff_prefix.1 hp).length_le
      simpa using this
    · simp only [hp, Bool.false_eq_true, if_false] at h ⊢
      by_cases h1 : Lib.index l sub = -1
      · simp [h1] at h
      · have h2 : (Lib.index l sub == -1) = false := by simpa using h1
        simp only [h2, Bool.false_eq_true, if_false] at h ⊢
        have := ih (by omega)
        simp only [List.length_cons]
        omega
theorem indexByte_lt {l : List UInt8} {c : UInt8} (h : ¬ Lib.indexByte l c < 0) : (Lib.indexByte l c).toNat + 1 ≤ l.length := by
  induction l with
  | nil => simp [Lib.indexByte] at h
  | cons b l ih =>
    have hge := Lib.indexByte_ge l c
    simp only [Lib.indexByte] at h ⊢
    by_cases hp : (b == c) = true
    · simp [hp]
    · simp only [hp, Bool.false_eq_true, if_false] at h ⊢
      by_cases h1 : Lib.indexByte l c = -1
      · simp [h1] at h
      · have h2 : (Lib.indexByte l c == -1) = false := by simpa using h1
        simp only [h2, Bool.false_eq_true, if_false] at h ⊢
        have := ih (by omega)
        simp only [List.length_cons]
        omega
theorem badN_false {l : List UInt8} (h : badN l = false) : 0 < nm l ∧ nm l ≤ 32 ∧ nm l ≤ l.length := by
  have := nm_le l
  unfold badN at h
  simp only [Bool.or_eq_false_iff, decide_eq_false_iff_not] at h
  omega
theorem attr_lt {L : List UInt8} {a : Nat} {r : List Tk × Nat} (h : attrM L a = .ok r) : a < r.2 ∧ r.2 ≤ L.length := by
  unfold attrM at h
  split at h
  · cases h
  · rename_i hb
    obtain ⟨h1, _, h2⟩ := badN_false (by simpa using hb)
    rw [List.length_drop] at h2
    unfold attr2 at h
    split at h
    · cases h
    · split at h
      · cases h
      · split at h
        · cases h
        · rename_i hi
          have := indexByte_lt hi
          rw [List.length_drop] at this
          split at h
          · cases h
          · cases h
            simp only
            omega
theorem attrs_lt {L : List UInt8} : ∀ {m a : Nat} {r : List Tk × Nat}, attrsM m L a = .ok r → a < r.2 ∧ r.2 ≤ L.length := by
  intro m
  induction m with
  | zero => intro a r h; cases h
  | succ m ih =>
    intro a r h
    simp only [attrsM] at h
    split at h
    · split at h
      · rename_i hp
        have := pre_drop hp
        cases h
        simp at this ⊢
        omega
      · cases h
    · split at h
      · rename_i hp
        have := pre_drop hp
        cases h
        simp at this ⊢
        omega
      · split at h
        · cases h
        · cases ha : attrM L (a + bl (L.drop a)) with
          | error e => rw [ha] at h; cases h
          | ok x =>
            rw [ha] at h
            have h1 := attr_lt ha
            cases hz : attrsM m L x.2 with
            | error e => simp only [hz] at h; cases h
            | ok z =>
              simp only [hz] at h
              have h2 := ih hz
              cases h
              simp only
              omega
theorem step_lt {L : List UInt8} {a : Nat} (ha : a < L.length) {r : List Tk × Nat} (h : stepM L a = .ok r) : a < r.2 ∧ r.2 ≤ L.length := by
  unfold stepM at h
  split at h
  · unfold holeM at h
    split at h
    · cases h
    · rename_i hi
      have := index_lt hi
      rw [List.length_drop] at this
      cases h
      simp at this ⊢
      omega
  · rename_i hp
    split at h
    · unfold tagM at h
      split at h
      · split at h
        · cases h
        · unfold close2 at h
          split at h
          · rename_i hq
            have := pre_drop hq
            cases h
            simp at this ⊢
            omega
          · cases h
      · split at h
        · cases h
        · unfold open2 at h
          split at h
          · cases h
          · rename_i z hz
            have := attrs_lt hz
            cases h
            simp only
            omega
    · rename_i hq
      unfold textM at h
      have hl := txN_le (L.drop a)
      have hpos : 0 < txN (L.drop a) := by
        rw [List.drop_eq_getElem_cons ha] at hp hq ⊢
        simp only [txN]
        rw [if_neg]
        · omega
        · rintro (h1 | h1)
          · exact hq (by rw [h1]; rfl)
          · exact hp h1
      rw [List.length_drop] at hl
      split at h
      · cases h
      · cases h
        simp only
        omega

/-! ### The state behind the tokens -/
theorem keeps_down {n m : Nat} {a b : Sto} (h : Keeps m a b) (hn : n ≤ m) : Keeps n a b := ⟨h.len, fun i hi => h.at_ i (by omega)⟩
def lpV (n : Nat) : AV := .fn (.func 26) [] [.mp (n + 2) 0 0]
structure LS (n : Nat) (s : ByteArray) (st : Sto) (a c b : Nat) (ts : List Tk) : Prop where
  lx : st[n]? = some (LX s a c b)
  lv : st[n + 2]? = some (.cells 0 [.mp n 0 0] 0)
  lp : st[n + 3]? = some (.loop (lex_Lex.lp11111010 0 0 n (n + 1) (lpV n) .ready none))
  out : ∃ x, st[n + 1]? = some (.cells 0 [x] 0) ∧ ((x = .nils ∧ ts = []) ∨ ∃ id g, n + 4 ≤ id ∧ x = .ms id g 0 ts.length 4 ∧ st[id]? = some (.cells g (tcells ts) 0))

section
variable {n : Nat} {s : ByteArray} {st : Sto} {a c b : Nat} {ts : List Tk}
theorem LS.lt (h : LS n s st a c b ts) : n + 3 < st.length := (List.getElem?_eq_some_iff.1 h.lp).1
theorem app_at {st l : Sto} {i : Nat} {o : Ob} (h : st[i]? = some o) : (st ++ l)[i]? = some o := by
  rw [List.getElem?_append_left (List.getElem?_eq_some_iff.1 h).1, h]
theorem set_at {st : Sto} {i j : Nat} {o p : Ob} (h : st[i]? = some o) (hij : j ≠ i) : (st.set j p)[i]? = some o := by
  rw [List.getElem?_set_ne hij, h]
theorem LS.app (h : LS n s st a c b ts) (l : Sto) : LS n s (st ++ l) a c b ts := by
  obtain ⟨x, h1, h2⟩ := h.out
  refine ⟨app_at h.lx, app_at h.lv, app_at h.lp, x, app_at h1, ?_⟩
  rcases h2 with h2 | ⟨id, g, h3, h4, h5⟩
  · exact .inl h2
  · exact .inr ⟨id, g, h3, h4, app_at h5⟩
theorem LS.move (h : LS n s st a c b ts) (a' c' b' : Nat) : LS n s (st.set n (LX s a' c' b')) a' c' b' ts := by
  obtain ⟨x, h1, h2⟩ := h.out
  refine ⟨lx_set (lx_lt h.lx) _, set_at h.lv (by omega), set_at h.lp (by omega), x, set_at h1 (by omega), ?_⟩
  rcases h2 with h2 | ⟨id, g, h3, h4, h5⟩
  · exact .inl h2
  · exact .inr ⟨id, g, h3, h4, set_at h5 (by omega)⟩
/-- Objects that came later may change, but the row. -/
theorem LS.temp (h : LS n s st a c b ts) {k : Nat} {o o0 : Ob} (hk : n + 4 ≤ k) (h0 : st[k]? = some o0) (hne : ∀ g, o0 ≠ .cells g (tcells ts) 0) : LS n s (st.set k o) a c b ts := by
  obtain ⟨x, h1, h2⟩ := h.out
  refine ⟨set_at h.lx (by omega), set_at h.lv (by omega), set_at h.lp (by omega), x, set_at h1 (by omega), ?_⟩
  rcases h2 with h2 | ⟨id, g, h3, h4, h5⟩
  · exact .inl h2
  · refine .inr ⟨id, g, h3, h4, set_at h5 ?_⟩
    rintro rfl
    rw [h0] at h5
    exact hne g (Option.some.inj h5)

theorem LS.gc {st' : Sto} {a' c' b' : Nat} {ts' : List Tk} {v : AV} (h : LS n s st a c b ts) (h' : LS n s st' a' c' b' ts') (hk : Keeps n st st') (hs : v.strip st.length = v) :
    ∃ st'', gc st (.ret v, st') = (.ret v, st'') ∧ LS n s st'' a' c' b' ts' ∧ Keeps n st st'' := by
  unfold Go.St.gc
  split
  · rename_i hc
    obtain ⟨_, h1, h2⟩ := hc
    refine ⟨st'.take st.length, by simp only [Out.map, hs], ?_, ?_⟩
    · have hlt := h.lt
      have tk : ∀ {i : Nat} {o : Ob}, i < st.length → st'[i]? = some o → (st'.take st.length)[i]? = some o := by
        intro i o hi ho
        rw [List.getElem?_take, if_pos hi, ho]
      obtain ⟨x, k1, k2⟩ := h'.out
      refine ⟨tk (by omega) h'.lx, tk (by omega) h'.lv, tk (by omega) h'.lp, x, tk (by omega) k1, ?_⟩
      rcases k2 with k2 | ⟨id, g, k3, k4, k5⟩
      · exact .inl k2
      · refine .inr ⟨id, g, k3, k4, tk ?_ k5⟩
        subst k4
        rcases h2 (n + 1) (by omega) with h2 | ⟨o, h3, h4⟩
        · rw [k1] at h2
          obtain ⟨y, m1, m2⟩ := h.out
          rw [m1] at h2
          cases h2
          rcases m2 with ⟨m2, _⟩ | ⟨id', g', m3, m4, m5⟩
          · cases m2
          · obtain ⟨e, _⟩ := AV.ms.inj m4
            subst e
            exact (List.getElem?_eq_some_iff.1 m5).1
        · rw [k1] at h3
          cases h3
          simpa [Ob.old, olds, AV.old] using h4
    · have h1 : st.length ≤ st'.length := h1
      refine ⟨by rw [List.length_take]; omega, fun i hi => ?_⟩
      have := h.lt
      rw [List.getElem?_take, if_pos (by omega)]
      exact hk.at_ i hi
  · exact ⟨st', rfl, h', hk⟩
end

/-- What is asked of a part that yields tokens. -/
def PostB (n : Nat) (s : ByteArray) (st : Sto) (ts : List Tk) (R : LR) (o : Option Res) : Prop := match R with
  | .error e => ∃ st' a' ts', o = some ⟨.ret (.bool false), none, st'⟩ ∧ LS n s st' a' e.1 e.2 ts' ∧ Keeps n st st'
  | .ok r => ∃ st', o = some ⟨.ret (.bool true), none, st'⟩ ∧ LS n s st' r.2 0 0 (ts ++ r.1) ∧ Keeps n st st'
def Post (n : Nat) (s : ByteArray) (st : Sto) (ts : List Tk) (R : LR) (o : Option (Out × Sto)) : Prop := match R with
  | .error e => ∃ st' a' ts', o = some (.ret (.bool false), st') ∧ LS n s st' a' e.1 e.2 ts' ∧ Keeps n st st'
  | .ok r => ∃ st', o = some (.ret (.bool true), st') ∧ LS n s st' r.2 0 0 (ts ++ r.1) ∧ Keeps n st st'
theorem post_of {n : Nat} {s : ByteArray} {st : Sto} {a c b : Nat} {ts : List Tk} (h : LS n s st a c b ts) {R : LR} {o : Option Res} (hp : PostB n s st ts R o) :
    Post n s st ts R (o.bind fun r => some (gc st (r.out, r.st))) := by
  cases R with
  | error e =>
    obtain ⟨st', a', ts', h1, h2, h3⟩ := hp
    obtain ⟨st'', k1, k2, k3⟩ := h.gc h2 h3 (v := .bool false) rfl
    exact ⟨st'', a', ts', by rw [h1]; simp only [Option.bind_some, k1], k2, k3⟩
  | ok r =>
    obtain ⟨st', h1, h2, h3⟩ := hp
    obtain ⟨st'', k1, k2, k3⟩ := h.gc h2 h3 (v := .bool true) rfl
    exact ⟨st'', by rw [h1]; simp only [Option.bind_some, k1], k2, k3⟩

theorem lit_tok (t : Tk) (st : Sto) : litS false 1 4 (fillA (fun i => some (i * 4, 4)) [.int .i64 0, .str ⟨#[]⟩, .str ⟨#[]⟩, .int .i64 0] [(0, .agg (tcell t))]) st = some (.is (tcell t) 1 .full, st) := rfl
theorem tail_tok (t : Tk) (st : Sto) : tailOf false 4 st (.is (tcell t) 1 .full) = some (tcell t, 1) := rfl

theorem yield_spec {n : Nat} {s : ByteArray} {st : Sto} {a c b : Nat} {ts : List Tk} (h : LS n s st a c b ts) (hts : ts.length ≤ 1000000) (t : Tk) :
    ∃ st', CallR ap rnd [.yl (n + 3), .agg (tcell t)] st = some (.ret (.bool true), st') ∧ LS n s st' a c b (ts ++ [t]) ∧ Keeps n st st' := by
  have hn := h.lt
  rw [lex_Lex.r11111010.call 0 0 n (n + 1) (lpV n) (.agg (tcell t)) (n + 3) st h.lp]
  suffices hb : ∃ st', lex_Lex.r11111010 0 0 n (n + 1) (lpV n) (.agg (tcell t)) (n + 3) st = some ⟨.ret (.bool true), none, st'⟩ ∧ LS n s st' a c b (ts ++ [t]) ∧ Keeps n st st' by
    obtain ⟨st', h1, h2, h3⟩ := hb
    obtain ⟨st'', k1, k2, k3⟩ := h.gc h2 h3 (v := .bool true) rfl
    exact ⟨st'', by rw [h1]; simp only [Option.bind_some, k1], k2, k3⟩
  have hsto : sto 4 (st ++ [Ob.cells 0 [.int .i64 0, .str ⟨#[]⟩, .str ⟨#[]⟩, .int .i64 0] 0]) (.mp st.length 0 0) (.agg (tcell t)) = some (st ++ [Ob.cells 0 (tcell t) 0]) :=
    sto_new (cs := [.int .i64 0, .str ⟨#[]⟩, .str ⟨#[]⟩, .int .i64 0]) (cs' := tcell t) rfl rfl rfl
  have h1 := h.app [Ob.cells 0 (tcell t) 0]
  have hbeg : rBeg (st ++ [Ob.cells 0 (tcell t) 0]) (n + 3) = some ((st ++ [Ob.cells 0 (tcell t) 0]).set (n + 3) (.loop (lex_Lex.lp11111010 0 0 n (n + 1) (lpV n) .busy none))) := by
    unfold rBeg
    rw [h1.lp]
    rfl
  obtain ⟨st2, hst2⟩ : ∃ st2, st2 = (st ++ [Ob.cells 0 (tcell t) 0]).set (n + 3) (.loop (lex_Lex.lp11111010 0 0 n (n + 1) (lpV n) .busy none)) := ⟨_, rfl⟩
  rw [← hst2] at hbeg
  have hlen2 : st2.length = st.length + 1 := by rw [hst2]; simp
  obtain ⟨x, o1, o2⟩ := h1.out
  have g1 : st2[n + 1]? = some (.cells 0 [x] 0) := by rw [hst2]; exact set_at o1 (by omega)
  have gx : st2[n]? = some (LX s a c b) := by rw [hst2]; exact set_at h1.lx (by omega)
  have gv : st2[n + 2]? = some (.cells 0 [.mp n 0 0] 0) := by rw [hst2]; exact set_at h1.lv (by omega)
  have gl : st2[n + 3]? = some (.loop (lex_Lex.lp11111010 0 0 n (n + 1) (lpV n) .busy none)) := by rw [hst2]; exact List.getElem?_set_self (by simp; omega)
  have gt : ld true 4 st2 (.mp st.length 0 0) = some (.agg (tcell t)) := m_all (g := 0) (fz := 0) (cs := tcell t) (by rw [hst2]; exact set_at (by simp) (by omega)) rfl
  have hk2 : Keeps n st st2 := by
    rw [hst2]
    exact (Keeps.app (by omega)).trans (Keeps.set (by omega))
  have happ : ∃ id g st3, appL true false 4 48 x (.is (tcell t) 1 .full) st2 = some (.ms id g 0 (ts.length + 1) 4, st3) ∧ n + 4 ≤ id ∧ st3[id]? = some (.cells g (tcells (ts ++ [t])) 0) ∧ Keeps (n + 4) st2 st3 := by
    have hroom : room 48 (ts.length + 1) = true := decide_eq_true (by omega)
    rcases o2 with ⟨rfl, rfl⟩ | ⟨id, g, p1, rfl, p2⟩
    · refine ⟨st2.length, 0, st2 ++ [.cells 0 (tcell t) 0], ?_, by omega, by simp [tcells], Keeps.app (by omega)⟩
      have hroom1 : room 48 1 = true := by decide
      simp only [appL, tail_tok, Option.bind_some, hroom1, if_true, show ¬ (1 = 0) by decide, if_false]
      rfl
    · have p3 : st2[id]? = some (.cells g (tcells ts) 0) := by rw [hst2]; exact set_at p2 (by omega)
      have hl := tcells_len ts
      refine ⟨id, g + 1, st2.set id (.cells (g + 1) (tcells ts ++ tcell t) 0), ?_, p1, ?_, Keeps.set p1⟩
      · simp only [appL, tail_tok, Option.bind_some, true_and, hroom, if_true, p3, Nat.zero_add, hl, Nat.le_refl, and_self, List.drop_zero]
        rw [← hl, List.take_length]
      · rw [List.getElem?_set_self (List.getElem?_eq_some_iff.1 p3).1, tcells_app]
        simp [tcells]
  obtain ⟨id, g, st3, a1, a2, a3, a4⟩ := happ
  have f1 : st3[n + 1]? = some (.cells 0 [x] 0) := by rw [a4.at_ _ (by omega)]; exact g1
  have fx : st3[n]? = some (LX s a c b) := by rw [a4.at_ _ (by omega)]; exact gx
  have fv : st3[n + 2]? = some (.cells 0 [.mp n 0 0] 0) := by rw [a4.at_ _ (by omega)]; exact gv
  have fl : st3[n + 3]? = some (.loop (lex_Lex.lp11111010 0 0 n (n + 1) (lpV n) .busy none)) := by rw [a4.at_ _ (by omega)]; exact gl
  have hs3 : sto 1 st3 (.mp (n + 1) 0 0) (.ms id g 0 (ts.length + 1) 4) = some (st3.set (n + 1) (.cells 0 [.ms id g 0 (ts.length + 1) 4] 0)) := sto_at f1 (show 0 < 1 by decide) rfl rfl
  obtain ⟨st4, hst4⟩ : ∃ st4, st4 = st3.set (n + 1) (.cells 0 [.ms id g 0 (ts.length + 1) 4] 0) := ⟨_, rfl⟩
  rw [← hst4] at hs3
  have hl3 : st2.length ≤ st3.length := a4.len
  have hend : rEnd st4 (n + 3) none = some ⟨.ret (.bool true), none, st4.set (n + 3) (.loop (lex_Lex.lp11111010 0 0 n (n + 1) (lpV n) .ready none))⟩ := by
    unfold rEnd
    rw [hst4, set_at fl (by omega)]
    rfl
  refine ⟨st4.set (n + 3) (.loop (lex_Lex.lp11111010 0 0 n (n + 1) (lpV n) .ready none)), ?_, ?_, ?_⟩
  · rw [lex_Lex.r11111010_eq]
    simp only [hsto, Option.bind_some, hbeg, m_get (n := 0) (x := x) g1 rfl, gt, lit_tok, a1, hs3, hend]
  · refine ⟨?_, ?_, ?_, .ms id g 0 (ts.length + 1) 4, ?_, .inr ⟨id, g, a2, by simp, ?_⟩⟩
    · exact set_at (by rw [hst4]; exact set_at fx (by omega)) (by omega)
    · exact set_at (by rw [hst4]; exact set_at fv (by omega)) (by omega)
    · refine List.getElem?_set_self ?_
      rw [hst4, List.length_set]
      omega
    · refine set_at ?_ (by omega)
      rw [hst4]
      exact List.getElem?_set_self (by omega)
    · exact set_at (by rw [hst4]; exact set_at a3 (by omega)) (by omega)
  · refine hk2.trans ((keeps_down a4 (by omega)).trans ?_)
    rw [hst4]
    exact (Keeps.set (by omega)).trans (Keeps.set (by omega))
end Go.Proofs.YtigdijdpggjpiaaDoor
