/- The lexer's parts: what they give. -/
import Derived.Test.YtigdijdpggjpiaaDoorR
import Derived.Test.YtigdijdpggjpiaaDoorP
namespace Go.Proofs.YtigdijdpggjpiaaDoor
open Go.St Go.Lib
set_option linter.unusedVariables false
set_option linter.unusedSimpArgs false

/-! ### Objects -/
section
variable {st : Sto} {id g fz n : Nat} {cs : List AV} {x : AV}
theorem m_get (h : st[id]? = some (.cells g cs fz)) (hx : cs[n]? = some x) : ld false 1 st (.mp id g n) = some x := by
  have hl : n < cs.length := (List.getElem?_eq_some_iff.1 hx).1
  have h1 : n + 1 ≤ cs.length := hl
  have h2 : (cs.drop n).take 1 = [x] := by
    rw [List.drop_eq_getElem_cons hl]
    simp only [List.take_succ_cons, List.take_zero]
    rw [(List.getElem?_eq_some_iff.1 hx).2]
  simp only [ld, ldCells, h, h1, true_and, if_true, Option.bind_some, h2]
  rfl
theorem m_all (h : st[id]? = some (.cells g cs fz)) (hn : cs.length = n) : ld true n st (.mp id g 0) = some (.agg cs) := by
  subst hn
  simp only [ld, ldCells, h, Nat.zero_add, Nat.le_refl, true_and, if_true, Option.bind_some, List.drop_zero, List.take_length]
  rfl
theorem sto_at {k : Nat} (h : st[id]? = some (.cells g cs 0)) (hk : k < cs.length) (hx : x.isCell = true) (hc : x.cells = [x]) : sto 1 st (.mp id g k) x = some (st.set id (.cells g (cs.set k x) 0)) := by
  have h1 : k + [x].length ≤ cs.length := hk
  have h2 : ([x]).all AV.isCell = true := by simp [hx]
  have h3 : splice cs k [x] = cs.set k x := by
    unfold splice
    rw [List.set_eq_take_append_cons_drop, if_pos hk]
    rfl
  unfold sto
  rw [hc, if_pos (show [x].length = 1 from rfl)]
  simp only [stCells, h, h1, h2, h3, Nat.zero_le, true_and, and_self, if_true]
theorem sto_new {cs' : List AV} (hc : cs'.all AV.isCell = true) (hl : cs'.length = cs.length) {n : Nat} (hn : cs.length = n) : sto n (st ++ [Ob.cells 0 cs 0]) (.mp st.length 0 0) (.agg cs') = some (st ++ [Ob.cells 0 cs' 0]) := by
  have h1 : (st ++ [Ob.cells 0 cs 0])[st.length]? = some (.cells 0 cs 0) := by simp
  have h2 : cs'.length ≤ cs.length := by omega
  have h3 : (AV.cells (.agg cs')).length = n := by show cs'.length = n; omega
  have h4 : ((AV.agg cs').cells) = cs' := rfl
  unfold sto
  rw [if_pos h3, h4]
  simp only [stCells, h1, Nat.zero_add, h2, hc, Nat.le_refl, true_and, and_self, if_true, splice, List.take_zero, List.nil_append]
  rw [List.drop_of_length_le (by omega)]
  simp
theorem fam (k : Nat) : fa k 1 (.mp id 0 0) = some (.mp id 0 k) := by simp [fa]
theorem nkm : nilCk (.mp id 0 0) = some (.mp id 0 0) := rfl
end

/-- Behind a call that turned an old object, which leads to nothing new. -/
theorem ret_set {b : Option Res} {v : AV} {st : Sto} {id : Nat} {o : Ob} {l : Sto} (h : b = some ⟨.ret v, none, st.set id o ++ l⟩) (hs : v.strip st.length = v) (ho : v.old st.length = true) (hoo : o.old st.length = true) :
    (b.bind fun r => some (gc st (r.out, r.st))) = some (.ret v, st.set id o) := by
  rw [h]
  simp only [Option.bind_some]
  have hc : (((Out.ret v).val.strip st.length).old st.length = true ∧ st.length ≤ (st.set id o ++ l).length ∧ Kept st.length st (st.set id o ++ l)) := by
    refine ⟨by simp only [Out.val, hs]; exact ho, by simp, fun i hi => ?_⟩
    rw [List.getElem?_append_left (by simpa using hi)]
    by_cases h : id = i
    · subst h
      exact .inr ⟨o, List.getElem?_set_self hi, hoo⟩
    · exact .inl (List.getElem?_set_ne h)
  have ht : (st.set id o ++ l).take st.length = st.set id o := by
    have : (st.set id o).length = st.length := by simp
    rw [← this, List.take_left]
  unfold gc
  rw [if_pos hc]
  simp only [Out.map, hs, ht]
theorem ret_set0 {b : Option Res} {v : AV} {st : Sto} {id : Nat} {o : Ob} (h : b = some ⟨.ret v, none, st.set id o⟩) (hs : v.strip st.length = v) (ho : v.old st.length = true) (hoo : o.old st.length = true) :
    (b.bind fun r => some (gc st (r.out, r.st))) = some (.ret v, st.set id o) := ret_set (l := []) (by simpa using h) hs ho hoo

/-! ### The lexer -/
def LX (s : ByteArray) (a c b : Nat) : Ob := .cells 0 [.str s, .int .i64 (a : Nat), .int .i64 (c : Nat), .int .i64 (b : Nat)] 0
theorem lx_old (s : ByteArray) (a c b n : Nat) : (LX s a c b).old n = true := rfl

section
variable {st : Sto} {s : ByteArray} {n a c b : Nat} (h : st[n]? = some (LX s a c b))
include h
theorem lx_s : ld false 1 st (.mp n 0 0) = some (.str s) := m_get h rfl
theorem lx_at : ld false 1 st (.mp n 0 1) = some (.int .i64 (a : Nat)) := m_get h rfl
theorem lx_code : ld false 1 st (.mp n 0 2) = some (.int .i64 (c : Nat)) := m_get h rfl
theorem lx_bad : ld false 1 st (.mp n 0 3) = some (.int .i64 (b : Nat)) := m_get h rfl
theorem lx_sat (k : Nat) : sto 1 st (.mp n 0 1) (.int .i64 (k : Nat)) = some (st.set n (LX s k c b)) := sto_at h (show 1 < 4 by decide) rfl rfl
theorem lx_scode (k : Nat) : sto 1 st (.mp n 0 2) (.int .i64 (k : Nat)) = some (st.set n (LX s a k b)) := sto_at h (show 2 < 4 by decide) rfl rfl
theorem lx_sbad (k : Nat) : sto 1 st (.mp n 0 3) (.int .i64 (k : Nat)) = some (st.set n (LX s a c k)) := sto_at h (show 3 < 4 by decide) rfl rfl
theorem lx_lt : n < st.length := (List.getElem?_eq_some_iff.1 h).1
end
theorem lx_set {st : Sto} {n : Nat} (hn : n < st.length) (o : Ob) : (st.set n o)[n]? = some o := List.getElem?_set_self hn

theorem gcB (st : Sto) (x : Bool) : gc st (.ret (.bool x), st) = (.ret (.bool x), st) := gc_keep rfl rfl (Keeps.refl _ _)

/-- Does this stand at the beginning? -/
def pre (w l : List UInt8) : Bool := w.isPrefixOf l

theorem drop_list (s : ByteArray) (i : Nat) : (ByteArray.extract s i (ByteArray.size s)).data.toList = s.data.toList.drop i := by
  rw [ext_list, List.take_of_length_le]
  rw [List.length_drop, ← size_list]
  exact Nat.le_refl _

theorem is_spec {st : Sto} {s : ByteArray} {n a c b : Nat} (h : st[n]? = some (LX s a c b)) (ha : a ≤ s.size) (w : ByteArray) :
    CallR ap 28 [.mp n 0 0, .str w] st = some (.ret (.bool (pre w.data.toList (s.data.toList.drop a))), st) := by
  have hb : bnd 0 s.size (some (.int .i64 (a : Int))) = some a := bnd_int ha
  rw [lex_lexer_is.call, lex_lexer_is.b_eq]
  simp only [nkm, fam, lx_s h, lx_at h, Option.bind_some, asS, hb, hasPrefix, Out.on, if_true, drop_list, gcB]
  rfl

theorem fail_spec {st : Sto} {s : ByteArray} {n a c b : Nat} (h : st[n]? = some (LX s a c b)) (code place : Nat) :
    CallR ap 46 [.mp n 0 0, .int .i64 (code : Nat), .int .i64 (place : Nat)] st = some (.ret (.bool false), st.set n (LX s a code place)) := by
  have h2 := lx_set (lx_lt h) (LX s a code b)
  rw [lex_lexer_fail.call]
  refine ret_set0 ?_ rfl rfl (lx_old _ _ _ _ _)
  rw [lex_lexer_fail.b_eq]
  simp only [nkm, fam, lx_scode h, Option.bind_some, lx_sbad h2, List.set_set]

def blank (c : UInt8) : Bool := c == 32 || c == 9 || c == 10 || c == 13
def bl (l : List UInt8) : Nat := (l.takeWhile blank).length
theorem bl_le (l : List UInt8) : bl l ≤ l.length := by
  unfold bl
  exact (List.takeWhile_prefix _).length_le

theorem indexByte_spec (w : ByteArray) (c : UInt8) (st : Sto) : CallR ap 59 [.str w, .int .u8 ((c.toNat : Nat) : Int)] st = some (.ret (.int .i64 (Lib.indexByte w.data.toList c)), st) := by
  rw [strings_IndexByte.call]
  refine ret_keep ?_ rfl rfl (Keeps.refl _ _)
  rw [strings_IndexByte.b_eq]
  simp [primA, Out.on]
theorem blank_index (c : UInt8) : decide (0 ≤ Lib.indexByte [32, 9, 10, 13] c) = blank c := by
  have : ∀ c : Fin 256, decide (0 ≤ Lib.indexByte [32, 9, 10, 13] (UInt8.ofNat c.1)) = blank (UInt8.ofNat c.1) := by decide +kernel
  have h := this ⟨c.toNat, c.toNat_lt⟩
  simpa using h

theorem drop_at {s : ByteArray} {a : Nat} (h : a < s.size) : ∃ c, s.data.toList[a]? = some c ∧ byt s a = ((c.toNat : Nat) : Int) ∧ s.data.toList.drop a = c :: s.data.toList.drop (a + 1) := by
  obtain ⟨c, h1, h2, _⟩ := byt_at h
  refine ⟨c, h1, h2, ?_⟩
  obtain ⟨k1, k2⟩ := List.getElem?_eq_some_iff.1 h1
  rw [List.drop_eq_getElem_cons k1, k2]
theorem drop_out {s : ByteArray} {a : Nat} (h : s.size ≤ a) : s.data.toList.drop a = [] := by
  rw [List.drop_of_length_le]
  rw [← size_list]
  exact h
theorem drop_len (s : ByteArray) (a : Nat) : (s.data.toList.drop a).length = s.size - a := by rw [List.length_drop, ← size_list]

theorem blanks_loop {s : ByteArray} (hs : s.size ≤ 65536) {n c b : Nat} (from_ : Nat) : ∀ (m a : Nat), a + m = s.size → ∀ st : Sto, st[n]? = some (LX s a c b) →
    lex_lexer_blanks.p11000 (.mp n 0 0) (.int .i64 (from_ : Nat)) st = some ⟨.ret (.bool (decide (from_ < a + bl (s.data.toList.drop a)))), none, st.set n (LX s (a + bl (s.data.toList.drop a)) c b)⟩ := by
  have last : ∀ (a : Nat) (st : Sto), st[n]? = some (LX s a c b) → lex_lexer_blanks.p1100001 (.mp n 0 0) (.int .i64 (from_ : Nat)) false st = some ⟨.ret (.bool (decide (from_ < a))), none, st⟩ := by
    intro a st h
    have e : (((from_ : Nat) : Int) < ((a : Nat) : Int)) = (from_ < a) := propext ⟨fun h => by omega, fun h => by omega⟩
    rw [lex_lexer_blanks.p1100001_eq]
    simp only [cond_false, nkm, fam, lx_at h, Option.bind_some, asI, if_true, e]
  intro m
  induction m with
  | zero =>
    intro a hm st h
    have hlt : ¬ ((a : Int) < ((s.size : Nat) : Int)) := by omega
    rw [lex_lexer_blanks.p11000_eq]
    simp only [nkm, fam, lx_s h, lx_at h, Option.bind_some, asS, asI, if_true, hlt, decide_false, cond_false, last a st h]
    rw [drop_out (by omega), show a + bl ([] : List UInt8) = a from rfl, set_same h]
  | succ m ih =>
    intro a hm st h
    have hlt : ((a : Int) < ((s.size : Nat) : Int)) := by omega
    have hlt' : a < s.size := by omega
    obtain ⟨ch, _, h2, h3⟩ := drop_at hlt'
    rw [lex_lexer_blanks.p11000_eq]
    simp only [nkm, fam, lx_s h, lx_at h, Option.bind_some, asS, asI, Go.St.asInt, if_true, hlt, decide_true, cond_true, idx_nat hlt', h2, indexByte_spec, Out.on, blank_index]
    rw [h3]
    cases hbk : blank ch with
    | false =>
      rw [last a st h]
      simp [bl, hbk, set_same h]
    | true =>
      have hw : IntKind.wrap .i64 ((a : Int) + 1) = ((a + 1 : Nat) : Int) := w64 _ (by omega) (by omega)
      have h' := lx_set (lx_lt h) (LX s (a + 1) c b)
      rw [lex_lexer_blanks.p1100001_eq]
      simp only [cond_true, nkm, fam, lx_at h, Option.bind_some, asI, if_true, hw, lx_sat h]
      rw [ih (a + 1) (by omega) _ h', List.set_set]
      have : a + 1 + bl (s.data.toList.drop (a + 1)) = a + bl (ch :: s.data.toList.drop (a + 1)) := by
        simp [bl, hbk]
        omega
      rw [this]

theorem blanks_spec {st : Sto} {s : ByteArray} {n a c b : Nat} (h : st[n]? = some (LX s a c b)) (ha : a ≤ s.size) (hs : s.size ≤ 65536) :
    CallR ap 48 [.mp n 0 0] st = some (.ret (.bool (decide (0 < bl (s.data.toList.drop a)))), st.set n (LX s (a + bl (s.data.toList.drop a)) c b)) := by
  rw [lex_lexer_blanks.call]
  have := blanks_loop hs a (s.size - a) a (by omega) st h
  have e : decide (a < a + bl (s.data.toList.drop a)) = decide (0 < bl (s.data.toList.drop a)) := decide_eq_decide.2 ⟨fun h => by omega, fun h => by omega⟩
  rw [e] at this
  refine ret_set0 ?_ rfl rfl (lx_old _ _ _ _ _)
  rw [lex_lexer_blanks.b_eq]
  simp only [nkm, fam, lx_at h, Option.bind_some, this]

theorem want_spec {st : Sto} {s : ByteArray} {n a c b : Nat} (h : st[n]? = some (LX s a c b)) (ha : a ≤ s.size) (hs : s.size ≤ 65536) (w : ByteArray) (hw : w.size ≤ 100) :
    CallR ap 49 [.mp n 0 0, .str w] st = some (.ret (.bool (pre w.data.toList (s.data.toList.drop a))), st.set n (if pre w.data.toList (s.data.toList.drop a) = true then LX s (a + w.size) c b else LX s a 1202 a)) := by
  have hwr : IntKind.wrap .i64 ((a : Int) + ((w.size : Nat) : Int)) = ((a + w.size : Nat) : Int) := w64 _ (by omega) (by omega)
  have hf := fail_spec h 1202 a
  rw [lex_lexer_want.call]
  cases hp : pre w.data.toList (s.data.toList.drop a) with
  | true =>
    simp only [if_true]
    refine ret_set0 ?_ rfl rfl (lx_old _ _ _ _ _)
    rw [lex_lexer_want.b_eq, is_spec h ha, hp]
    simp only [Option.bind_some, Out.on, asB, Bool.not_true, cond_false, nkm, fam, lx_at h, asI, if_true, hwr, lx_sat h]
  | false =>
    simp only [Bool.false_eq_true, if_false]
    refine ret_set0 ?_ rfl rfl (lx_old _ _ _ _ _)
    rw [lex_lexer_want.b_eq, is_spec h ha, hp]
    simp only [Option.bind_some, Out.on, asB, Bool.not_false, cond_true, nkm, fam, lx_at h]
    rw [show ((1202 : Int)) = ((1202 : Nat) : Int) from rfl, hf]
    rfl

/-! ### Names -/
def letter (c : UInt8) : Bool := decide (97 ≤ c.toNat) && decide (c.toNat ≤ 122)
def inner (c : UInt8) : Bool := letter c || (c.toNat == 45 || (decide (48 ≤ c.toNat) && decide (c.toNat ≤ 57)))
/-- How long is the name here? -/
def nm : List UInt8 → Nat
  | [] => 0
  | c :: r => if letter c = true then 1 + (r.takeWhile inner).length else 0
/-- The same, with the first byte's place told. -/
def nmAt (first : Bool) : List UInt8 → Nat
  | [] => 0
  | c :: r => if (letter c || (!first && inner c)) = true then 1 + nmAt false r else 0
theorem nmAt_false (l : List UInt8) : nmAt false l = (l.takeWhile inner).length := by
  induction l with
  | nil => rfl
  | cons c r ih =>
    have : (letter c || inner c) = inner c := by unfold inner; cases letter c <;> simp
    simp only [nmAt, Bool.not_false, Bool.true_and, this]
    cases hc : inner c with
    | true => simp [ih, hc]; omega
    | false => simp [hc]
theorem nmAt_true (l : List UInt8) : nmAt true l = nm l := by
  cases l with
  | nil => rfl
  | cons c r => simp only [nmAt, nm, Bool.not_true, Bool.false_and, Bool.or_false, nmAt_false]
theorem nmAt_le (l : List UInt8) : ∀ f, nmAt f l ≤ l.length := by
  induction l with
  | nil => intro f; simp [nmAt]
  | cons c r ih =>
    intro f
    have := ih false
    simp only [nmAt, List.length_cons]
    split <;> omega
theorem nm_le (l : List UInt8) : nm l ≤ l.length := by rw [← nmAt_true]; exact nmAt_le l true

theorem name_loop {s : ByteArray} (hs : s.size ≤ 65536) {n c b : Nat} (from_ : Nat) : ∀ (m a : Nat), a + m = s.size → from_ ≤ a → ∀ st : Sto, st[n]? = some (LX s a c b) →
    lex_lexer_name.p11000 (.mp n 0 0) (.int .i64 (from_ : Nat)) st = lex_lexer_name.p111 (.mp n 0 0) (.int .i64 (from_ : Nat)) (st.set n (LX s (a + nmAt (decide (a = from_)) (s.data.toList.drop a)) c b)) := by
  intro m
  induction m with
  | zero =>
    intro a hm hf st h
    have hlt : ¬ ((a : Int) < ((s.size : Nat) : Int)) := by omega
    rw [lex_lexer_name.p11000_eq]
    simp only [nkm, fam, lx_s h, lx_at h, Option.bind_some, asS, asI, if_true, hlt, decide_false, cond_false]
    rw [drop_out (by omega)]
    simp only [nmAt, Nat.add_zero, set_same h]
  | succ m ih =>
    intro a hm hf st h
    have hlt : ((a : Int) < ((s.size : Nat) : Int)) := by omega
    have hlt' : a < s.size := by omega
    obtain ⟨ch, _, h2, h3⟩ := drop_at hlt'
    have hw : IntKind.wrap .i64 ((a : Int) + 1) = ((a + 1 : Nat) : Int) := w64 _ (by omega) (by omega)
    have h' := lx_set (lx_lt h) (LX s (a + 1) c b)
    have nxt := ih (a + 1) (by omega) (by omega) _ h'
    rw [List.set_set, show decide (a + 1 = from_) = false from decide_eq_false (by omega)] at nxt
    have mid : ∀ q : Bool, lex_lexer_name.p1100010101 (.mp n 0 0) (.int .i64 (from_ : Nat)) q st =
        bif q then lex_lexer_name.p111 (.mp n 0 0) (.int .i64 (from_ : Nat)) st else lex_lexer_name.p111 (.mp n 0 0) (.int .i64 (from_ : Nat)) (st.set n (LX s (a + 1 + nmAt false (s.data.toList.drop (a + 1))) c b)) := by
      intro q
      rw [lex_lexer_name.p1100010101_eq]
      cases q with
      | true => rfl
      | false => simp only [cond_false, nkm, fam, lx_at h, Option.bind_some, asI, if_true, hw, lx_sat h, nxt]
    have fin : ∀ q : Bool, q = (!(letter ch || (!decide (a = from_) && inner ch))) → lex_lexer_name.p1100010101 (.mp n 0 0) (.int .i64 (from_ : Nat)) q st =
        lex_lexer_name.p111 (.mp n 0 0) (.int .i64 (from_ : Nat)) (st.set n (LX s (a + nmAt (decide (a = from_)) (ch :: s.data.toList.drop (a + 1))) c b)) := by
      rintro q rfl
      rw [mid]
      simp only [nmAt]
      cases (letter ch || (!decide (a = from_) && inner ch)) with
      | true => simp only [Bool.not_true, cond_false, if_true, Nat.add_assoc]
      | false => simp only [Bool.not_false, cond_true, Bool.false_eq_true, if_false, Nat.add_zero, set_same h]
    have e1 : (((a : Nat) : Int) = ((from_ : Nat) : Int)) = (a = from_) := propext ⟨fun h => by omega, fun h => by omega⟩
    have e2 : (((ch.toNat : Nat) : Int) < 97) = (ch.toNat < 97) := propext ⟨fun h => by omega, fun h => by omega⟩
    have e3 : ((122 : Int) < ((ch.toNat : Nat) : Int)) = (122 < ch.toNat) := propext ⟨fun h => by omega, fun h => by omega⟩
    have e4 : (((ch.toNat : Nat) : Int) = 45) = (ch.toNat = 45) := propext ⟨fun h => by omega, fun h => by omega⟩
    have e5 : (((ch.toNat : Nat) : Int) < 48) = (ch.toNat < 48) := propext ⟨fun h => by omega, fun h => by omega⟩
    have e6 : ((57 : Int) < ((ch.toNat : Nat) : Int)) = (57 < ch.toNat) := propext ⟨fun h => by omega, fun h => by omega⟩
    rw [lex_lexer_name.p11000_eq]
    simp only [nkm, fam, lx_s h, lx_at h, Option.bind_some, asS, asI, Go.St.asInt, if_true, hlt, decide_true, cond_true, idx_nat hlt', h2, e1, e2, e3, e4, e5, e6, Bool.cond_not, Bool.cond_decide]
    rw [h3]
    repeat' split
    all_goals refine fin _ ?_
    all_goals simp only [letter, inner]
    all_goals rw [Bool.eq_iff_iff]
    all_goals simp only [true_iff, false_iff, Bool.not_eq_true', Bool.not_eq_false', Bool.or_eq_false_iff, Bool.and_eq_false_iff, Bool.or_eq_true, Bool.and_eq_true, decide_eq_true_eq, decide_eq_false_iff_not, Bool.false_eq_true, ne_eq, Bool.not_true, Bool.not_false, beq_iff_eq, Bool.not_eq_true, beq_eq_false_iff_ne]
    all_goals omega

def badName : AV := .tup [.str ⟨#[]⟩, .bool false]
theorem name_spec {st : Sto} {s : ByteArray} {n a c b : Nat} (h : st[n]? = some (LX s a c b)) (ha : a ≤ s.size) (hs : s.size ≤ 65536) :
    CallR ap 47 [.mp n 0 0] st = some (if nm (s.data.toList.drop a) = 0 ∨ 32 < nm (s.data.toList.drop a) then (.ret badName, st.set n (LX s (a + nm (s.data.toList.drop a)) 1202 a))
      else (.ret (.tup [.str (mk ((s.data.toList.drop a).take (nm (s.data.toList.drop a)))), .bool true]), st.set n (LX s (a + nm (s.data.toList.drop a)) c b))) := by
  have hl := name_loop hs a (s.size - a) a (by omega) (Nat.le_refl _) st h
  rw [show decide (a = a) = true from decide_eq_true rfl, nmAt_true] at hl
  have hle := nm_le (s.data.toList.drop a)
  rw [drop_len] at hle
  obtain ⟨k, hk⟩ : ∃ k, k = nm (s.data.toList.drop a) := ⟨_, rfl⟩
  rw [← hk] at hl hle ⊢
  have h' := lx_set (lx_lt h) (LX s (a + k) c b)
  have hf := fail_spec h' 1202 a
  rw [List.set_set] at hf
  have hwd : IntKind.wrap .i64 (((a + k : Nat) : Int) - ((a : Nat) : Int)) = ((k : Nat) : Int) := w64 _ (by omega) (by omega)
  rw [lex_lexer_name.call]
  have start : lex_lexer_name.b (.mp n 0 0) st = lex_lexer_name.p111 (.mp n 0 0) (.int .i64 (a : Nat)) (st.set n (LX s (a + k) c b)) := by
    rw [lex_lexer_name.b_eq]
    simp only [nkm, fam, lx_at h, Option.bind_some, hl]
  by_cases h0 : k = 0
  · have e : (((a + k : Nat) : Int) = ((a : Nat) : Int)) := by omega
    rw [if_pos (.inl h0)]
    refine ret_set0 ?_ rfl rfl (lx_old _ _ _ _ _)
    rw [start, lex_lexer_name.p111_eq]
    simp only [nkm, fam, lx_at h', Option.bind_some, asI, if_true, e, decide_true, cond_true]
    rw [show ((1202 : Int)) = ((1202 : Nat) : Int) from rfl, hf]
    rfl
  · have e : ¬ (((a + k : Nat) : Int) = ((a : Nat) : Int)) := by omega
    by_cases h1 : 32 < k
    · have e1 : ((32 : Int) < ((k : Nat) : Int)) := by omega
      rw [if_pos (.inr h1)]
      refine ret_set0 ?_ rfl rfl (lx_old _ _ _ _ _)
      rw [start, lex_lexer_name.p111_eq]
      simp only [nkm, fam, lx_at h', Option.bind_some, asI, if_true, e, decide_false, cond_false, hwd, e1, decide_true, cond_true]
      rw [show ((1202 : Int)) = ((1202 : Nat) : Int) from rfl, hf]
      rfl
    · have e1 : ¬ ((32 : Int) < ((k : Nat) : Int)) := by omega
      have b1 : bnd s.size s.size (some (.int .i64 ((a + k : Nat) : Int))) = some (a + k) := bnd_int (by omega)
      have b2 : bnd 0 (a + k) (some (.int .i64 ((a : Nat) : Int))) = some a := bnd_int (by omega)
      have ex : ByteArray.extract s a (a + k) = mk ((s.data.toList.drop a).take k) := by
        rw [← mk_data (ByteArray.extract s a (a + k)), ext_list, show a + k - a = k by omega]
      rw [if_neg (by omega)]
      refine ret_set0 ?_ rfl rfl (lx_old _ _ _ _ _)
      rw [start, lex_lexer_name.p111_eq]
      simp only [nkm, fam, lx_at h', lx_s h', Option.bind_some, asI, asS, if_true, e, decide_false, cond_false, hwd, e1, b1, b2, ex]

/-! ### Plain text -/
/-- What a piece stands for, or the fault. -/
def plM (sub : List UInt8) (from_ place : Nat) (bound : Bool) : Except (Nat × Nat) (List UInt8) :=
  match pl sub.length sub 0 [] with
  | (none, k) => .error (1204, from_ + k)
  | (some t, _) => if bound = false ∧ 4096 < t.length then .error (1201, place) else .ok t

theorem pl_le : ∀ (n : Nat) (l : List UInt8) (i : Nat) (acc : List UInt8), l.length ≤ n → (pl n l i acc).2 ≤ i + l.length ∧ ∀ t, (pl n l i acc).1 = some t → t.length ≤ acc.length + l.length := by
  intro n
  induction n with
  | zero =>
    intro l i acc h
    have : l = [] := List.eq_nil_of_length_eq_zero (by omega)
    subst this
    simp [pl]
  | succ n ih =>
    intro l i acc h
    cases l with
    | nil => simp [pl]
    | cons c r =>
      simp only [List.length_cons] at h
      simp only [pl]
      split
      · obtain ⟨h1, h2⟩ := ih r (i + 1) (acc ++ [c]) (by omega)
        refine ⟨by simp only [List.length_cons]; omega, fun t ht => ?_⟩
        have := h2 t ht
        simp only [List.length_append, List.length_cons, List.length_nil] at *
        omega
      · split
        · rename_i d hd
          obtain ⟨hm, hp⟩ := hit_mem hd
          have hpos := W_pos hm
          have hlen : (W d.toNat true).size ≤ (c :: r).length := by
            rw [size_list]
            exact (List.isPrefixOf_iff_prefix.1 hp).length_le
          obtain ⟨h1, h2⟩ := ih ((c :: r).drop (W d.toNat true).size) (i + (W d.toNat true).size) (acc ++ [d]) (by rw [List.length_drop]; simp only [List.length_cons] at *; omega)
          rw [List.length_drop] at h1 h2
          refine ⟨by omega, fun t ht => ?_⟩
          have := h2 t ht
          simp only [List.length_append, List.length_cons, List.length_nil] at *
          omega
        · exact ⟨Nat.le_add_right _ _, fun t ht => by simp at ht⟩

theorem plain_spec {st : Sto} {s : ByteArray} {n a c b : Nat} (h : st[n]? = some (LX s a c b)) (hs : s.size ≤ 65536) {f t : Nat} (hft : f ≤ t) (ht : t ≤ s.size) (place : Nat) (bound : Bool) :
    CallR ap 44 [.mp n 0 0, .int .i64 (f : Nat), .int .i64 (t : Nat), .int .i64 (place : Nat), .bool bound] st = some (match plM ((s.data.toList.drop f).take (t - f)) f place bound with
      | .error e => (.ret badName, st.set n (LX s a e.1 e.2))
      | .ok x => (.ret (.tup [.str (mk x), .bool true]), st)) := by
  have b1 : bnd s.size s.size (some (.int .i64 ((t : Nat) : Int))) = some t := bnd_int ht
  have b2 : bnd 0 t (some (.int .i64 ((f : Nat) : Int))) = some f := bnd_int hft
  have hsz : (ByteArray.extract s f t).size = ((s.data.toList.drop f).take (t - f)).length := by rw [size_list, ext_list]
  have hlen : ((s.data.toList.drop f).take (t - f)).length ≤ 65536 := by
    rw [List.length_take, drop_len]
    omega
  have hp := plain (ByteArray.extract s f t) (by omega) st
  rw [hsz, ext_list] at hp
  unfold plM
  obtain ⟨hk, hx⟩ := pl_le ((s.data.toList.drop f).take (t - f)).length ((s.data.toList.drop f).take (t - f)) 0 [] (Nat.le_refl _)
  rw [lex_lexer_plain.call]
  cases hr : pl ((s.data.toList.drop f).take (t - f)).length ((s.data.toList.drop f).take (t - f)) 0 [] with
  | mk r k =>
    rw [hr] at hp hk hx
    cases r with
    | none =>
      simp only at hk
      have hw : IntKind.wrap .i64 (((f : Nat) : Int) + ((k : Nat) : Int)) = ((f + k : Nat) : Int) := w64 _ (by omega) (by omega)
      have hf := fail_spec h 1204 (f + k)
      refine ret_set0 ?_ rfl rfl (lx_old _ _ _ _ _)
      rw [lex_lexer_plain.b_eq]
      simp only [nkm, fam, lx_s h, Option.bind_some, asS, b1, b2, hp, plOut, Out.on, ext, List.getElem?_cons_zero, List.getElem?_cons_succ, asI, if_true, show decide ((400 : Int) = 0) = false from rfl, Bool.not_false, cond_true, hw]
      rw [show ((1204 : Int)) = ((1204 : Nat) : Int) from rfl, hf]
      rfl
    | some x =>
      have hx' := hx x rfl
      simp only [List.length_nil, Nat.zero_add] at hx'
      have hms : (mk x).size = x.length := mk_size x
      have e : ((4096 : Int) < (((mk x).size : Nat) : Int)) = (4096 < x.length) := propext ⟨fun h => by omega, fun h => by omega⟩
      have hf := fail_spec h 1201 place
      by_cases hc : bound = false ∧ 4096 < x.length
      · simp only [hc, and_self, if_true]
        refine ret_set0 ?_ rfl rfl (lx_old _ _ _ _ _)
        rw [lex_lexer_plain.b_eq]
        simp only [nkm, fam, lx_s h, Option.bind_some, asS, b1, b2, hp, plOut, Out.on, ext, List.getElem?_cons_zero, List.getElem?_cons_succ, asI, if_true, decide_true, Bool.not_true, cond_false, Bool.not_false, cond_true, e, hc.2, decide_true, lex_lexer_plain.p1100111_eq]
        rw [show ((1201 : Int)) = ((1201 : Nat) : Int) from rfl, hf]
        rfl
      · simp only [if_neg hc]
        refine ret_keep ?_ rfl rfl (Keeps.refl _ _)
        rw [lex_lexer_plain.b_eq]
        simp only [nkm, fam, lx_s h, Option.bind_some, asS, b1, b2, hp, plOut, Out.on, ext, List.getElem?_cons_zero, List.getElem?_cons_succ, asI, if_true, decide_true, Bool.not_true, cond_false, e]
        cases bound with
        | true => simp only [Bool.not_true, cond_false, lex_lexer_plain.p1100111_eq]
        | false =>
          have : ¬ 4096 < x.length := fun h => hc ⟨rfl, h⟩
          simp only [Bool.not_false, cond_true, this, decide_false, lex_lexer_plain.p1100111_eq, cond_false]
end Go.Proofs.YtigdijdpggjpiaaDoor
