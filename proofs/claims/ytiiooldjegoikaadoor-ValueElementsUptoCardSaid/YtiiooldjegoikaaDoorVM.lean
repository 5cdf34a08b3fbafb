/- Values in memory that may be written: copies. -/
import Derived.Test.YtiiooldjegoikaaDoorVP
namespace Go.Proofs.YtiiooldjegoikaaDoor
open Go.St Go.Lib
set_option linter.unusedVariables false
set_option linter.unusedSimpArgs false

/-- Names in an object out of an interval. -/
def NamM (st : Sto) (s : AV) (l : List ByteArray) (v : AV) (lo hi : Nat) : Prop :=
  (l = [] ∧ ((s = .nils ∧ v = .nils) ∨ ((∃ x y z, s = .is x y z) ∧ v = .is [] 0 .full)) ∧ lo ≤ hi) ∨ ∃ id, lo ≤ id ∧ id < hi ∧ 0 < l.length ∧ (∃ x y z, s = .is x y z) ∧ v = .ms id 0 0 l.length 1 ∧ st[id]? = some (.cells 0 (ncells l) 0)

/-- Values in row, whose rows are objects out of an interval. -/
def RowM (st : Sto) : Va → List AV → List AV → Nat → Nat → Prop
  | .nil, _, row, lo, hi => row = [] ∧ lo ≤ hi
  | .cons h parts rest, src, row, lo, hi => ∃ sa sp sr a p r m1 m2, src = hcells h sa sp ++ sr ∧ row = hcells h a p ++ r ∧ In h.n ∧ RowM st rest sr r lo m1 ∧ NamM st sa h.names a m1 m2 ∧
      ((parts.len = 0 ∧ ((sp = .nils ∧ p = .nils) ∨ ((∃ x y z, sp = .is x y z) ∧ p = .is [] 0 .full)) ∧ m2 ≤ hi) ∨ ∃ id prow srow k tok, m2 ≤ id ∧ id < hi ∧ 0 < parts.len ∧ sp = .is srow k tok ∧ p = .ms id 0 0 parts.len 6 ∧ st[id]? = some (.cells 0 prow 0) ∧ RowM st parts (srow.take (parts.len * 6)) prow (id + 1) hi)

theorem NamM.le {st : Sto} {s : AV} {l : List ByteArray} {v : AV} {lo hi : Nat} (h : NamM st s l v lo hi) : lo ≤ hi := by
  rcases h with ⟨_, _, h⟩ | ⟨id, h1, h2, _⟩ <;> omega
theorem RowM.le {st : Sto} : ∀ {ts : Va} {src row : List AV} {lo hi : Nat}, RowM st ts src row lo hi → lo ≤ hi := by
  intro ts
  induction ts with
  | nil => intro src row lo hi h; exact h.2
  | cons h parts rest ihp ihr =>
    rintro src row lo hi ⟨sa, sp, sr, a, p, r, m1, m2, hsrc, _, _, h1, h2, h3⟩
    have e1 := ihr h1
    have e2 := h2.le
    rcases h3 with ⟨_, _, h3⟩ | ⟨id, prow, srow, kk, tok, h3, h4, _⟩ <;> omega
theorem NamM.mono {st st' : Sto} {s : AV} {l : List ByteArray} {v : AV} {lo hi : Nat} (h : NamM st s l v lo hi) (k : ∀ j, lo ≤ j → j < hi → st'[j]? = st[j]?) : NamM st' s l v lo hi := by
  rcases h with h | ⟨id, h1, h2, h3, h4⟩
  · exact .inl h
  · exact .inr ⟨id, h1, h2, h3, h4.1, h4.2.1, by rw [k id h1 h2]; exact h4.2.2⟩
theorem RowM.mono {st st' : Sto} : ∀ {ts : Va} {src row : List AV} {lo hi : Nat}, RowM st ts src row lo hi → (∀ j, lo ≤ j → j < hi → st'[j]? = st[j]?) → RowM st' ts src row lo hi := by
  intro ts
  induction ts with
  | nil => intro src row lo hi h _; exact h
  | cons h parts rest ihp ihr =>
    rintro src row lo hi ⟨sa, sp, sr, a, p, r, m1, m2, hsrc, h0, hn, h1, h2, h3⟩ k
    have l1 := h1.le
    have l2 := h2.le
    have l3 : m2 ≤ hi := by rcases h3 with ⟨_, _, h3⟩ | ⟨id, prow, srow, kk, tok, h3, h4, _⟩ <;> omega
    refine ⟨sa, sp, sr, a, p, r, m1, m2, hsrc, h0, hn, ihr h1 fun j a b => k j a (by omega), h2.mono fun j a b => k j (by omega) (by omega), ?_⟩
    rcases h3 with h3 | ⟨id, prow, srow, kk, tok, e1, e2, e3, e0, e4, e5, e6⟩
    · exact .inl h3
    · exact .inr ⟨id, prow, srow, kk, tok, e1, e2, e3, e0, e4, by rw [k id (by omega) e2]; exact e5, ihp e6 fun j a b => k j (by omega) b⟩
theorem NamM.wide {st : Sto} {s : AV} {l : List ByteArray} {v : AV} {lo hi hi' : Nat} (h : NamM st s l v lo hi) (k : hi ≤ hi') : NamM st s l v lo hi' := by
  rcases h with ⟨h1, h2, h3⟩ | ⟨id, h1, h2, h3⟩
  · exact .inl ⟨h1, h2, by omega⟩
  · exact .inr ⟨id, h1, by omega, h3⟩
theorem RowM.len {st : Sto} : ∀ {ts : Va} {src row : List AV} {lo hi : Nat}, RowM st ts src row lo hi → row.length = ts.len * 6 := by
  intro ts
  induction ts with
  | nil => intro src row lo hi h; rw [h.1]; rfl
  | cons h parts rest ihp ihr =>
    rintro src row lo hi ⟨sa, sp, sr, a, p, r, m1, m2, hsrc, h0, hn, h1, h2, h3⟩
    rw [h0]
    simp only [List.length_append, ihr h1, Va.len, hcells, List.length_cons, List.length_nil]
    omega
theorem NamM.cell {st : Sto} {s : AV} {l : List ByteArray} {v : AV} {lo hi : Nat} (h : NamM st s l v lo hi) : v.isCell = true ∧ v.cells = [v] ∧ lenL v = some l.length := by
  rcases h with ⟨rfl, ⟨_, rfl⟩ | ⟨_, rfl⟩, _⟩ | ⟨id, _, _, _, _, rfl, _⟩ <;> exact ⟨rfl, rfl, rfl⟩

/-- Rows of just so many cells. -/
theorem row_take : ∀ (ts : Va) (row : List AV), Row ts row → ts.len * 6 ≤ row.length ∧ Row ts (row.take (ts.len * 6)) := by
  intro ts
  induction ts with
  | nil => intro row _; exact ⟨by simp [Va.len], trivial⟩
  | cons h parts rest ihp ihr =>
    rintro row ⟨a, p, r, rfl, h0, h1, h2, h3⟩
    obtain ⟨k1, k2⟩ := ihr r h3
    refine ⟨by simp only [Va.len, List.length_append, hcells, List.length_cons, List.length_nil]; omega, a, p, r.take (rest.len * 6), ?_, h0, h1, h2, k2⟩
    simp only [Va.len]
    rw [show (rest.len + 1) * 6 = (hcells h a p).length + rest.len * 6 by simp [hcells]; omega, List.take_length_add_append]

/-! ### Clones -/
theorem eq_nil_is (row : List AV) (n : Nat) (tok : Tok) : eqV .slice [] true (.is row n tok) .nils = some false := rfl

theorem cloneN_spec {l : List ByteArray} {a : AV} (ha : NamV l a) (hs : nsz l ≤ 1050000) (st : Sto) : ∃ v obs, CallR ap 60 [a] st = some (.ret v, st ++ obs) ∧ NamM (st ++ obs) a l v st.length (st.length + obs.length) := by
  have hl := nsz_len l
  by_cases hn : a = .nils
  · subst hn
    have hl0 : l = [] := by
      rcases ha with ⟨h, _⟩ | ⟨rest, tok, h, _⟩
      · exact h
      · cases h
    exact ⟨.nils, [], by rw [List.append_nil]; exact cloneN_nil st, .inl ⟨hl0, .inl ⟨rfl, rfl⟩, by omega⟩⟩
  · have hai : ∃ x y z, a = .is x y z := by
      rcases ha with ⟨_, h⟩ | ⟨rest, tok, rfl, _⟩
      · exact absurd h hn
      · exact ⟨_, _, _, rfl⟩
    have heq : eqV .slice [] true a .nils = some false := by
      rcases ha with ⟨_, h⟩ | ⟨rest, tok, rfl, _⟩
      · exact absurd h hn
      · rfl
    have h0 : (litS false 0 1 (fillA (fun i => some (i * 1, 1)) [] []) st) = some (.is [] 0 .full, st) := rfl
    have hb := slices_Clone_string_string.b_eq a st
    simp only [heq, Option.bind_some, cond_false, h0, appL, ha.tail] at hb
    rw [slices_Clone_string_string.call]
    by_cases hz : l.length = 0
    · simp only [hz, if_true, Option.bind_some] at hb
      refine ⟨.is [] 0 .full, [], ?_, .inl ⟨List.eq_nil_of_length_eq_zero hz, .inr ⟨hai, rfl⟩, by omega⟩⟩
      rw [List.append_nil]
      exact ret_keep hb rfl rfl (Keeps.refl _ _)
    · have hroom : room 16 l.length = true := by simp [room]; omega
      simp only [hz, if_false, List.length_nil, Nat.zero_mul, Nat.zero_add, hroom, and_self, if_true, List.nil_append, Option.bind_some] at hb
      refine ⟨.ms st.length 0 0 l.length 1, [.cells 0 (ncells l) 0], ?_, .inr ⟨st.length, by omega, by simp, by omega, hai, rfl, by simp⟩⟩
      rw [hb]
      simp only [Option.bind_some]
      unfold gc
      rw [if_neg]
      rintro ⟨h, _⟩
      simp [Out.val, AV.strip, AV.old] at h

/-- What a clone of values is. -/
def ListM (st : Sto) (s : AV) (ts : Va) (p : AV) (lo hi : Nat) (prow : List AV) : Prop := (ts.len = 0 ∧ ((s = .nils ∧ p = .nils) ∨ ((∃ x y z, s = .is x y z) ∧ p = .is [] 0 .full)) ∧ lo ≤ hi) ∨ (lo < hi ∧ 0 < ts.len ∧ (∃ srow k tok, s = .is srow k tok ∧ prow = srow.take (ts.len * 6)) ∧ p = .ms lo 0 0 ts.len 6 ∧ st[lo]? = some (.cells 0 prow 0) ∧ Row ts prow ∧ prow.length = ts.len * 6)

theorem VaV.tail {ts : Va} {v : AV} (h : VaV ts v) (st : Sto) : ∃ row, tailOf false 6 st v = some (row, ts.len) ∧ Row ts row ∧ row.length = ts.len * 6 ∧ (v = .nils ∨ ∃ srow k tok, v = .is srow k tok ∧ row = srow.take (ts.len * 6)) := by
  rcases h with ⟨h, rfl⟩ | ⟨row, tok, rfl, hr⟩
  · obtain rfl := len_nil h
    exact ⟨[], rfl, trivial, rfl, .inl rfl⟩
  · obtain ⟨k1, k2⟩ := row_take ts row hr
    refine ⟨row.take (ts.len * 6), ?_, k2, by rw [List.length_take]; omega, .inr ⟨_, _, _, rfl, rfl⟩⟩
    simp only [tailOf, Bool.false_eq_true, if_false, rowOf]
    by_cases h0 : row.length = ts.len * 6
    · rw [if_pos h0, ← h0, List.take_length]
      rfl
    · rw [if_neg h0, if_pos k1]
      rfl

theorem cloneV_spec {ts : Va} {p : AV} (hp : VaV ts p) (hs : ts.sz ≤ 1050000) (st : Sto) : ∃ v obs prow, CallR ap 61 [p] st = some (.ret v, st ++ obs) ∧ ListM (st ++ obs) p ts v st.length (st.length + obs.length) prow ∧ v.isCell = true ∧ v.cells = [v] ∧ lenL v = some ts.len ∧ obs.length ≤ 1 := by
  have hl := len_sz ts
  by_cases hn : p = .nils
  · subst hn
    have hl0 : ts.len = 0 := by
      rcases hp with ⟨h, _⟩ | ⟨row, tok, h, _⟩
      · exact h
      · cases h
    exact ⟨.nils, [], [], by rw [List.append_nil]; exact cloneV_nil st, .inl ⟨hl0, .inl ⟨rfl, rfl⟩, by omega⟩, rfl, rfl, by rw [hl0]; rfl, by simp⟩
  · have heq : eqV .slice [] true p .nils = some false := by
      rcases hp with ⟨_, h⟩ | ⟨row, tok, rfl, _⟩
      · exact absurd h hn
      · rfl
    have h0 : (litS false 0 6 (fillA (fun i => some (i * 6, 6)) [] []) st) = some (.is [] 0 .full, st) := rfl
    obtain ⟨prow, t1, t2, t3, t4⟩ := hp.tail st
    have t4 : ∃ srow k tok, p = .is srow k tok ∧ prow = srow.take (ts.len * 6) := by
      rcases t4 with h | h
      · exact absurd h hn
      · exact h
    have hpi : ∃ x y z, p = .is x y z := by obtain ⟨a, b, c, h, _⟩ := t4; exact ⟨a, b, c, h⟩
    have hb := slices_Clone_api_Value_api_Value.b_eq p st
    simp only [heq, Option.bind_some, cond_false, h0, appL, t1] at hb
    rw [slices_Clone_api_Value_api_Value.call]
    by_cases hz : ts.len = 0
    · simp only [hz, if_true, Option.bind_some] at hb
      refine ⟨.is [] 0 .full, [], [], ?_, .inl ⟨hz, .inr ⟨hpi, rfl⟩, by omega⟩, rfl, rfl, by rw [hz]; rfl, by simp⟩
      rw [List.append_nil]
      exact ret_keep hb rfl rfl (Keeps.refl _ _)
    · have hroom : room 88 ts.len = true := by simp [room]; omega
      simp only [hz, if_false, List.length_nil, Nat.zero_mul, Nat.zero_add, hroom, and_self, if_true, List.nil_append, Option.bind_some] at hb
      refine ⟨.ms st.length 0 0 ts.len 6, [.cells 0 prow 0], prow, ?_, .inr ⟨by simp, by omega, t4, rfl, by simp, t2, t3⟩, rfl, rfl, rfl, by simp⟩
      rw [hb]
      simp only [Option.bind_some]
      unfold gc
      rw [if_neg]
      rintro ⟨h, _⟩
      simp [Out.val, AV.strip, AV.old] at h

/-- Pointers to the elements of an object, from one on. -/
def ptrs (lid : Nat) : Nat → Nat → List AV
  | _, 0 => []
  | i, k + 1 => .mp lid 0 (i * 6) :: ptrs lid (i + 1) k
theorem ptrs_len (lid : Nat) : ∀ (k i : Nat), (ptrs lid i k).length = k := by
  intro k
  induction k with
  | zero => intro i; rfl
  | succ k ih => intro i; simp [ptrs, ih]

/-- The pointers to a value's parts are put behind the stack. -/
theorem push_ptrs {t2 t3 : Nat} {v : AV} {lid len sid : Nat} (hns : lid ≠ sid) (hlen : len ≤ 1050000) : ∀ (k i : Nat) (g : Nat) (S : Sto) (st0 : List AV) (junk : List AV) (id off : Nat), i + k = len → S[sid]? = some (.cells g (st0 ++ junk) 0) → st0.length + k ≤ 1000000000 → v = .mp id 0 off → id ≠ sid →
    (∀ S', S'[id]? = S[id]? → ld false 1 S' (.mp id 0 (off + 5)) = some (.ms lid 0 0 len 6)) →
    ∃ g' junk' S', value_copied.p11100010111100 t2 t3 (.ms sid g 0 st0.length 1) v ((len : Nat) : Int) ((i : Nat) : Int) S = value_copied.p111000 t2 t3 (.ms sid g' 0 (st0 ++ ptrs lid i k).length 1) S' ∧ S'[sid]? = some (.cells g' ((st0 ++ ptrs lid i k) ++ junk') 0) ∧ S'.length = S.length ∧ ∀ j, j ≠ sid → S'[j]? = S[j]? := by
  intro k
  induction k with
  | zero =>
    intro i g S st0 junk id off hi hS hl hv hid hld
    refine ⟨g, junk, S, ?_, by simpa [ptrs] using hS, rfl, fun _ _ => rfl⟩
    rw [value_copied.p11100010111100_eq]
    have : ¬ (((i : Nat) : Int) < ((len : Nat) : Int)) := by omega
    simp only [this, decide_false, cond_false, ptrs, List.append_nil]
  | succ k ih =>
    intro i g S st0 junk id off hi hS hl hv hid hld
    subst hv
    have hlt : (((i : Nat) : Int) < ((len : Nat) : Int)) := by omega
    have w1 : IntKind.wrap .i64 (((i : Nat) : Int) + 1) = ((i + 1 : Nat) : Int) := w64 _ (by omega) (by omega)
    have l5 := hld S rfl
    have hia : ia 6 (.ms lid 0 0 len 6) (.int .i64 ((i : Nat) : Int)) = some (.mp lid 0 (i * 6)) := by
      simp only [ia, if_true, idx_nat (show i < len by omega), Option.bind_some, Nat.zero_add]
    have hli : (litS false 1 1 (fillA (fun i => some (i * 1, 1)) [.nilp] [(0, (.mp lid 0 (i * 6)))]) S) = some (.is [.mp lid 0 (i * 6)] 1 .full, S) := rfl
    have hroom : room 8 (st0.length + 1) = true := by simp [room]; omega
    have happ : appL false false 1 8 (.ms sid g 0 st0.length 1) (.is [.mp lid 0 (i * 6)] 1 .full) S = some (.ms sid (g + 1) 0 (st0.length + 1) 1, S.set sid (.cells (g + 1) (st0 ++ [.mp lid 0 (i * 6)]) 0)) := by
      have htail : tailOf false 1 S (.is [.mp lid 0 (i * 6)] 1 .full) = some ([.mp lid 0 (i * 6)], 1) := rfl
      have hle : 0 + st0.length ≤ (st0 ++ junk).length := by rw [List.length_append]; omega
      simp only [appL, htail, Option.bind_some, true_and, hroom, if_true, hS, hle, and_self, List.drop_zero, Nat.mul_one, List.take_left]
    have hsl := (List.getElem?_eq_some_iff.1 hS).1
    obtain ⟨S1, hS1⟩ : ∃ s, s = S.set sid (.cells (g + 1) (st0 ++ [.mp lid 0 (i * 6)]) 0) := ⟨_, rfl⟩
    have hg1 : S1[sid]? = some (.cells (g + 1) ((st0 ++ [.mp lid 0 (i * 6)]) ++ []) 0) := by rw [hS1, List.append_nil]; exact List.getElem?_set_self hsl
    have hid1 : S1[id]? = S[id]? := by rw [hS1]; exact List.getElem?_set_ne (Ne.symm hid)
    obtain ⟨g', junk', S', e1, e2, e3, e4⟩ := ih (i + 1) (g + 1) S1 (st0 ++ [.mp lid 0 (i * 6)]) [] id off (by omega) hg1 (by simp only [List.length_append, List.length_singleton]; omega) rfl hid (fun S'' h => hld S'' (h.trans hid1))
    have hpe : (st0 ++ [AV.mp lid 0 (i * 6)]) ++ ptrs lid (i + 1) k = st0 ++ ptrs lid i (k + 1) := by simp [ptrs]
    rw [hpe] at e1 e2
    refine ⟨g', junk', S', ?_, e2, by rw [e3, hS1]; simp, fun j hj => by rw [e4 j hj, hS1, List.getElem?_set_ne (Ne.symm hj)]⟩
    rw [value_copied.p11100010111100_eq]
    have hf5 : fa 5 1 (.mp id 0 off) = some (.mp id 0 (off + 5)) := rfl
    have hn : nilCk (.mp id 0 off) = some (.mp id 0 off) := rfl
    simp only [hlt, decide_true, cond_true, hn, hf5, Option.bind_some, l5, hia, hli, happ, w1]
    rw [← hS1]
    have e0 : (st0 ++ [AV.mp lid 0 (i * 6)]).length = st0.length + 1 := by simp
    rw [e0] at e1
    exact e1
theorem RowM.down {st : Sto} : ∀ {ts : Va} {src row : List AV} {lo hi lo' : Nat}, RowM st ts src row lo hi → lo' ≤ lo → RowM st ts src row lo' hi := by
  intro ts
  induction ts with
  | nil => intro src row lo hi lo' h k; exact ⟨h.1, by have := h.2; omega⟩
  | cons h parts rest ihp ihr =>
    rintro src row lo hi lo' ⟨sa, sp, sr, a, p, r, m1, m2, hsrc, h0, hn, h1, h2, h3⟩ k
    exact ⟨sa, sp, sr, a, p, r, m1, m2, hsrc, h0, hn, ihr h1 k, h2, h3⟩

theorem set_hc (h : Hd) (a p a' p' : AV) (pre post : List AV) : ((pre ++ hcells h a p ++ post).set (pre.length + 4) a').set (pre.length + 5) p' = pre ++ hcells h a' p' ++ post := by
  rw [List.append_assoc, List.append_assoc, List.set_append_right _ _ (by omega), List.set_append_right _ _ (by omega)]
  congr 1
  rw [show pre.length + 4 - pre.length = 4 by omega, show pre.length + 5 - pre.length = 5 by omega]
  rfl
theorem get_hc (h : Hd) (a p : AV) (pre post : List AV) (j : Nat) (c : AV) (hj : (hcells h a p)[j]? = some c) : (pre ++ hcells h a p ++ post)[pre.length + j]? = some c := by
  have hl : j < (hcells h a p).length := (List.getElem?_eq_some_iff.1 hj).1
  rw [List.append_assoc, List.getElem?_append_right (by omega), show pre.length + j - pre.length = j by omega, List.getElem?_append_left hl, hj]

/-- One value is made its own. -/
theorem copy_step {t2 t3 sid id g : Nat} {S : Sto} {base junk pre post : List AV} {h : Hd} {a p : AV} {parts : Va} (hsid : S[sid]? = some (.cells g ((base ++ [.mp id 0 pre.length]) ++ junk) 0)) (hid : S[id]? = some (.cells 0 (pre ++ hcells h a p ++ post) 0)) (hne : id ≠ sid) (ha : NamV h.names a) (hp : VaV parts p) (hs : nsz h.names ≤ 1050000) (hs2 : parts.sz ≤ 1050000) (hb : base.length + parts.len ≤ 1000000000) :
    ∃ g' junk' S' a' p' m1 prow, value_copied.p111000 t2 t3 (.ms sid g 0 (base.length + 1) 1) S = value_copied.p111000 t2 t3 (.ms sid g' 0 (base ++ ptrs m1 0 parts.len).length 1) S' ∧ S'[sid]? = some (.cells g' ((base ++ ptrs m1 0 parts.len) ++ junk') 0) ∧
      S'[id]? = some (.cells 0 (pre ++ hcells h a' p' ++ post) 0) ∧ NamM S' a h.names a' S.length m1 ∧ ListM S' p parts p' m1 S'.length prow ∧ S.length ≤ S'.length ∧ ∀ j, j < S.length → j ≠ id → j ≠ sid → S'[j]? = S[j]? := by
  have hsl := (List.getElem?_eq_some_iff.1 hsid).1
  have hil := (List.getElem?_eq_some_iff.1 hid).1
  have hps := len_sz parts
  obtain ⟨a', o1, c1, n1⟩ := cloneN_spec ha hs S
  obtain ⟨p', o2, prow, c2, n2, p1, p2, p3, p4⟩ := cloneV_spec hp hs2 (S ++ o1)
  have ac := n1.cell
  have ap1 : ∀ {i : Nat} {o : Ob}, S[i]? = some o → (S ++ o1)[i]? = some o := fun {i o} h => by rw [List.getElem?_append_left (List.getElem?_eq_some_iff.1 h).1, h]
  have ap2 : ∀ {i : Nat} {o : Ob}, S[i]? = some o → (S ++ o1 ++ o2)[i]? = some o := fun {i o} h => by rw [List.getElem?_append_left (by have := (List.getElem?_eq_some_iff.1 h).1; simp; omega), ap1 h]
  have hl0 : lenL (.ms sid g 0 (base.length + 1) 1) = some (base.length + 1) := rfl
  have hpos : ((0 : Int) < ((base.length + 1 : Nat) : Int)) := by omega
  have w0 : IntKind.wrap .i64 (((base.length + 1 : Nat) : Int) - 1) = ((base.length : Nat) : Int) := w64 _ (by omega) (by omega)
  have hia : ia 1 (.ms sid g 0 (base.length + 1) 1) (.int .i64 ((base.length : Nat) : Int)) = some (.mp sid g base.length) := by
    simp only [ia, if_true, idx_nat (show base.length < base.length + 1 by omega), Option.bind_some, Nat.zero_add, Nat.mul_one]
  have htop : ld false 1 S (.mp sid g base.length) = some (.mp id 0 pre.length) := m_get hsid (by rw [List.append_assoc, List.getElem?_append_right (Nat.le_refl _)]; simp)
  have hcut : cutL 1 (.ms sid g 0 (base.length + 1) 1) none (some (.int .i64 ((base.length : Nat) : Int))) = some (.ms sid g 0 base.length 1) := by
    have hb : bnd (base.length + 1) (base.length + 1) (some (.int .i64 ((base.length : Nat) : Int))) = some base.length := bnd_nat (by omega)
    simp only [cutL, hb, Option.bind_some]
    simp only [bnd, Option.bind_some, if_true, Nat.zero_mul, Nat.add_zero, Nat.sub_zero]
  have hn : nilCk (.mp id 0 pre.length) = some (.mp id 0 pre.length) := rfl
  have f4 : fa 4 1 (.mp id 0 pre.length) = some (.mp id 0 (pre.length + 4)) := rfl
  have f5 : fa 5 1 (.mp id 0 pre.length) = some (.mp id 0 (pre.length + 5)) := rfl
  have r4 : ld false 1 S (.mp id 0 (pre.length + 4)) = some a := m_get hid (get_hc _ _ _ _ _ 4 a rfl)
  have r5 : ld false 1 S (.mp id 0 (pre.length + 5)) = some p := m_get hid (get_hc _ _ _ _ _ 5 p rfl)
  have r5' : ld false 1 (S ++ o1) (.mp id 0 (pre.length + 5)) = some p := m_get (ap1 hid) (get_hc _ _ _ _ _ 5 p rfl)
  have hcl : pre.length + 5 < (pre ++ hcells h a p ++ post).length := by simp [hcells]
  have s4 : sto 1 (S ++ o1 ++ o2) (.mp id 0 (pre.length + 4)) a' = some ((S ++ o1 ++ o2).set id (.cells 0 ((pre ++ hcells h a p ++ post).set (pre.length + 4) a') 0)) := sto_at (ap2 hid) (by omega) ac.1 ac.2.1
  have hil2 : id < (S ++ o1 ++ o2).length := by simp; omega
  have s5 : sto 1 ((S ++ o1 ++ o2).set id (.cells 0 ((pre ++ hcells h a p ++ post).set (pre.length + 4) a') 0)) (.mp id 0 (pre.length + 5)) p' = some ((S ++ o1 ++ o2).set id (.cells 0 (pre ++ hcells h a' p' ++ post) 0)) := by
    rw [sto_at (List.getElem?_set_self hil2) (by rw [List.length_set]; exact hcl) p1 p2, set_hc, List.set_set]
  obtain ⟨S4, hS4⟩ : ∃ s, s = (S ++ o1 ++ o2).set id (.cells 0 (pre ++ hcells h a' p' ++ post) 0) := ⟨_, rfl⟩
  rw [← hS4] at s5
  have g4 : S4[id]? = some (.cells 0 (pre ++ hcells h a' p' ++ post) 0) := by rw [hS4]; exact List.getElem?_set_self hil2
  have l4 : S4.length = S.length + o1.length + o2.length := by rw [hS4]; simp; omega
  have n4 : ∀ j, j ≠ id → S4[j]? = (S ++ o1 ++ o2)[j]? := fun j hj => by rw [hS4, List.getElem?_set_ne (Ne.symm hj)]
  have k5 : ∀ S', S'[id]? = S4[id]? → ld false 1 S' (.mp id 0 (pre.length + 5)) = some p' := fun S' hh => m_get (hh.trans g4) (get_hc _ _ _ _ _ 5 p' rfl)
  have gs4 : S4[sid]? = some (.cells g (base ++ ([.mp id 0 pre.length] ++ junk)) 0) := by rw [n4 sid (Ne.symm hne), ap2 hsid, List.append_assoc]
  have one : value_copied.p111000 t2 t3 (.ms sid g 0 (base.length + 1) 1) S = value_copied.p11100010111100 t2 t3 (.ms sid g 0 base.length 1) (.mp id 0 pre.length) ((parts.len : Nat) : Int) 0 S4 := by
    rw [value_copied.p111000_eq]
    simp only [hl0, Option.bind_some, hpos, decide_true, cond_true, w0, hia, htop, hcut, hn, f4, f5, r4, c1, Out.on, r5, r5', if_true, c2, s4, s5, k5 S4 rfl, p3]
  have n1' : ∀ S' : Sto, (∀ j, S.length ≤ j → S'[j]? = (S ++ o1 ++ o2)[j]?) → NamM S' a h.names a' S.length (S.length + o1.length) := fun S' hh => n1.mono fun j hj1 hj2 => by rw [hh j hj1, List.getElem?_append_left (by simp; omega)]
  by_cases h0 : parts.len = 0
  · refine ⟨g, [.mp id 0 pre.length] ++ junk, S4, a', p', S.length + o1.length, prow, ?_, by simpa [h0, ptrs] using gs4, g4, n1' S4 fun j hj => n4 j (by omega), ?_, by omega, fun j hj hj1 hj2 => by rw [n4 j hj1, List.append_assoc, List.getElem?_append_left hj]⟩
    · rw [one, value_copied.p11100010111100_eq]
      simp only [h0, Int.natCast_zero, Int.lt_irrefl, decide_false, cond_false, ptrs, List.append_nil]
    · rcases n2 with ⟨e1, e2, e3⟩ | ⟨e1, e2, _⟩
      · exact .inl ⟨e1, e2, by omega⟩
      · omega
  · rcases n2 with ⟨e1, _⟩ | ⟨e1, e2, e0, e3, e4, e5, e6⟩
    · exact absurd e1 h0
    · have hlen1 : (S ++ o1).length = S.length + o1.length := by simp
      rw [hlen1] at e1 e3 e4
      obtain ⟨g', junk', S', q1, q2, q3, q4⟩ := push_ptrs (t2 := t2) (t3 := t3) (v := .mp id 0 pre.length) (lid := S.length + o1.length) (len := parts.len) (sid := sid) (by omega) (by omega) parts.len 0 g S4 base ([.mp id 0 pre.length] ++ junk) id pre.length (by omega) gs4 hb rfl hne (fun S' hh => by rw [k5 S' hh, e3])
      refine ⟨g', junk', S', a', p', S.length + o1.length, prow, ?_, q2, by rw [q4 id hne]; exact g4, n1' S' fun j hj => by rw [q4 j (by omega), n4 j (by omega)], ?_, by omega, fun j hj hj1 hj2 => by rw [q4 j hj2, n4 j hj1, List.append_assoc, List.getElem?_append_left hj]⟩
      · rw [one]
        exact q1
      · refine .inr ⟨by omega, e2, e0, e3, ?_, e5, e6⟩
        rw [q4 _ (by omega), n4 _ (by omega)]
        exact e4

def CopMOk (ts : Va) : Prop := ∀ (t2 t3 lid i sid g : Nat) (S : Sto) (base junk pre post row : List AV), S[lid]? = some (.cells 0 (pre ++ row ++ post) 0) → pre.length = i * 6 → Row ts row → row.length = ts.len * 6 → S[sid]? = some (.cells g ((base ++ ptrs lid i ts.len) ++ junk) 0) → lid ≠ sid → base.length + ts.sz ≤ 100000000 → ts.sz ≤ 1050000 →
  ∃ g' junk' S' row', value_copied.p111000 t2 t3 (.ms sid g 0 (base ++ ptrs lid i ts.len).length 1) S = value_copied.p111000 t2 t3 (.ms sid g' 0 base.length 1) S' ∧ S'[sid]? = some (.cells g' (base ++ junk') 0) ∧ S'[lid]? = some (.cells 0 (pre ++ row' ++ post) 0) ∧ RowM S' ts row row' S.length S'.length ∧ S.length ≤ S'.length ∧ ∀ j, j < S.length → j ≠ lid → j ≠ sid → S'[j]? = S[j]?

theorem copM_all (ts : Va) : CopMOk ts := by
  induction ts with
  | nil =>
    intro t2 t3 lid i sid g S base junk pre post row hlid hpre hrow hlen hsid hne hb hs
    have : row = [] := List.eq_nil_of_length_eq_zero (by simpa [Va.len] using hlen)
    subst this
    refine ⟨g, junk, S, [], by simp [Va.len, ptrs], by simpa [Va.len, ptrs] using hsid, hlid, ⟨rfl, Nat.le_refl _⟩, Nat.le_refl _, fun _ _ _ _ => rfl⟩
  | cons h parts rest ihp ihr =>
    intro t2 t3 lid i sid g S base junk pre post row hlid hpre hrow hlen hsid hne hb hs
    obtain ⟨a, p, r, rfl, hIn, hna, hpl, hr⟩ := hrow
    have hpv : VaV parts p := by
      rcases hpl with ⟨h3, h5⟩ | h3
      · exact .inl ⟨h3, h5⟩
      · exact .inr h3
    simp only [Va.sz] at hb hs
    have hps := len_sz parts
    have hsl := (List.getElem?_eq_some_iff.1 hsid).1
    have hll := (List.getElem?_eq_some_iff.1 hlid).1
    have hrl : r.length = rest.len * 6 := by
      simp only [List.length_append, hcells, List.length_cons, List.length_nil, Va.len] at hlen
      omega
    have hpe : base ++ ptrs lid i (Va.cons h parts rest).len = (base ++ [.mp lid 0 pre.length]) ++ ptrs lid (i + 1) rest.len := by
      simp [Va.len, ptrs, hpre]
    rw [hpe] at hsid ⊢
    obtain ⟨g1, junk1, S1, r1, a1, a2, a3, a4, a5, a6⟩ := ihr t2 t3 lid (i + 1) sid g S (base ++ [.mp lid 0 pre.length]) junk (pre ++ hcells h a p) post r (by rw [hlid]; simp) (by simp [hcells, hpre]; omega) hr hrl hsid hne (by simp only [List.length_append, List.length_singleton]; omega) (by omega)
    obtain ⟨g2, junk2, S2, a', p', m1, prow, b1, b2, b3, b4, b5, b6, b7⟩ := copy_step (t2 := t2) (t3 := t3) (S := S1) (base := base) (junk := junk1) (pre := pre) (post := r1 ++ post) (h := h) (a := a) (p := p) (parts := parts) a2 (by rw [a3]; simp) hne hna hpv (by omega) (by omega) (by omega)
    have e0 : (base ++ [AV.mp lid 0 pre.length]).length = base.length + 1 := by simp
    rw [a1, e0, b1]
    have hm1 := b4.le
    have mono12 : ∀ j, S.length ≤ j → j < S1.length → S2[j]? = S1[j]? := fun j hj1 hj2 => b7 j hj2 (by omega) (by omega)
    have low : ∀ j, j < S.length → j ≠ lid → j ≠ sid → S2[j]? = S[j]? := fun j hj h1 h2 => by rw [b7 j (by omega) h1 h2, a6 j hj h1 h2]
    rcases b5 with ⟨c1, c2, c3⟩ | ⟨c1, c2, ⟨srow, kk, tok, hsp, hpr⟩, c3, c4, c5, c6⟩
    · refine ⟨g2, junk2, S2, hcells h a' p' ++ r1, by simp [c1, ptrs], by simpa [c1, ptrs] using b2, by rw [b3]; simp, ?_, by omega, low⟩
      exact ⟨a, p, r, a', p', r1, S1.length, m1, rfl, rfl, hIn, a4.mono mono12, b4, .inl ⟨c1, c2, c3⟩⟩
    · obtain ⟨g3, junk3, S3, prow3, d1, d2, d3, d4, d5, d6⟩ := ihp t2 t3 m1 0 sid g2 S2 base junk2 [] [] prow (by simpa using c4) rfl c5 c6 b2 (by omega) (by omega) (by omega)
      refine ⟨g3, junk3, S3, hcells h a' p' ++ r1, d1, d2, ?_, ?_, by omega, fun j hj h1 h2 => by rw [d6 j (by omega) (by omega) h2, low j hj h1 h2]⟩
      · rw [d6 lid (by omega) (by omega) hne, b3]; simp
      · refine ⟨a, p, r, a', p', r1, S1.length, m1, rfl, rfl, hIn, a4.mono fun j hj1 hj2 => by rw [d6 j (by omega) (by omega) (by omega), mono12 j hj1 hj2], b4.mono fun j hj1 hj2 => d6 j (by omega) (by omega) (by omega), .inr ⟨m1, prow3, srow, kk, tok, by omega, by omega, c2, hsp, c3, by simpa using d3, by rw [← hpr]; exact d4.down (by omega)⟩⟩
end Go.Proofs.YtiiooldjegoikaaDoor
