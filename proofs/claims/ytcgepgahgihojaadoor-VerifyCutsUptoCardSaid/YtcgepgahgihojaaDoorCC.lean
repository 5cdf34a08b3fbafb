/- Code: Check. -/
import Derived.Test.YtcgepgahgihojaaDoorC
namespace Go.Proofs.YtcgepgahgihojaaDoor
open Go.St Go.Lib
set_option linter.unusedVariables false
set_option linter.unusedSimpArgs false

theorem aI (n : Int) : asI .i64 (.int .i64 n) = some n := rfl
theorem aS (s : ByteArray) : asS (.str s) = some s := rfl
theorem aB (b : Bool) : asB (.bool b) = some b := rfl
theorem gB (b : Bool) : guardT (.bool b) = some (some b) := rfl
theorem x0 (a : AV) (l : List AV) : ext (.tup (a :: l)) 0 = some a := rfl
theorem x1 (a b : AV) (l : List AV) : ext (.tup (a :: b :: l)) 1 = some b := rfl
theorem x2 (a b c : AV) (l : List AV) : ext (.tup (a :: b :: c :: l)) 2 = some c := rfl
theorem cr {c : Option (Out × Sto)} {v : AV} {st : Sto} {F G : Out × Sto → AV → Option Res} (h : c = some (.ret v, st)) : (c.bind fun x => x.1.on (F x) (G x)) = F (.ret v, st) v := by rw [h]; rfl
theorem br {α : Type} {c : Option α} {a : α} {F : α → Option Res} (h : c = some a) : c.bind F = F a := by rw [h]; rfl
theorem bt {c : Bool} {x y : Option Res} (h : c = true) : (bif c then x else y) = x := by rw [h]; rfl
theorem bf {c : Bool} {x y : Option Res} (h : c = false) : (bif c then x else y) = y := by rw [h]; rfl
theorem it {p : Prop} {inst : Decidable p} {x y : Option Res} (h : p) : (if p then x else y) = x := if_pos h
theorem gs {no : Option Res} {yes : Bool → Option Res} {b : Bool} : gOn (some b) no yes = yes b := rfl
theorem dtrue {p : Prop} [Decidable p] (h : p) : decide p = true := decide_eq_true h
theorem dfalse {p : Prop} [Decidable p] (h : ¬ p) : decide p = false := decide_eq_false h
theorem app_get {S l : Sto} {n : Nat} {o : Ob} (h : S[n]? = some o) : (S ++ l)[n]? = some o := by
  rw [List.getElem?_append_left (List.getElem?_eq_some_iff.1 h).1, h]

/-! ### Instructions in row -/
def icells : List (Int × Int) → List AV
  | [] => []
  | x :: r => .int .i64 x.1 :: .int .i64 x.2 :: icells r
def InsV (code : List (Int × Int)) (v : AV) : Prop := (code = [] ∧ v = .nils) ∨ ∃ rest tok, v = .is (icells code ++ rest) code.length tok
theorem icells_len (l : List (Int × Int)) : (icells l).length = l.length * 2 := by
  induction l with
  | nil => rfl
  | cons x r ih => simp only [icells, List.length_cons, ih]; omega
theorem icells_app (a b : List (Int × Int)) : icells (a ++ b) = icells a ++ icells b := by
  induction a with
  | nil => rfl
  | cons x r ih => simp [icells, ih]
theorem InsV.len {code : List (Int × Int)} {v : AV} (h : InsV code v) : lenL v = some code.length := by
  rcases h with ⟨rfl, rfl⟩ | ⟨row, tok, rfl⟩ <;> rfl
theorem InsV.cell {code : List (Int × Int)} {v : AV} (h : InsV code v) : v.isCell = true ∧ v.cells = [v] := by
  rcases h with ⟨rfl, rfl⟩ | ⟨row, tok, rfl⟩ <;> exact ⟨rfl, rfl⟩
theorem ins_at {code : List (Int × Int)} {v : AV} {i : Nat} {x : Int × Int} (h : InsV code v) (hx : code[i]? = some x) : ia 2 v (.int .i64 ((i : Nat) : Int)) = some (.ip [.int .i64 x.1, .int .i64 x.2]) := by
  have hi := (List.getElem?_eq_some_iff.1 hx).1
  rcases h with ⟨h, _⟩ | ⟨rest, tok, rfl⟩
  · rw [h] at hi; simp at hi
  · have hsp : code = code.take i ++ x :: code.drop (i + 1) := by
      have e := List.getElem?_eq_getElem hi
      rw [hx] at e
      cases e
      rw [← List.drop_eq_getElem_cons hi, List.take_append_drop]
    have hl := icells_len code
    have hc : (i + 1) * 2 ≤ (icells code ++ rest).length := by rw [List.length_append, hl]; omega
    simp only [ia, idx_nat hi, Option.bind_some, hc, if_true]
    have ht : (icells (code.take i)).length = i * 2 := by rw [icells_len, List.length_take]; congr 1; omega
    have : icells code ++ rest = icells (code.take i) ++ (icells (x :: code.drop (i + 1)) ++ rest) := by
      rw [← List.append_assoc, ← icells_app, ← hsp]
    rw [this, ← ht, List.drop_left]
    rfl

/-! ### One instruction, in plain Lean -/
def leadB (hs : List Int) (to : Nat) (x : Int) : Bool := decide ((leadH hs to x).getD to 0 = x)
def jmpX (op a : Int) (hs : List Int) (h : Int) : Bool × List Int :=
  if op = 30 then (leadB hs a.toNat h, leadH hs a.toNat h) else if op = 31 then (leadB hs a.toNat h, leadH hs a.toNat h)
  else if op = 32 then (leadB hs a.toNat (IntKind.wrap .i64 (h - 1)), leadH hs a.toNat (IntKind.wrap .i64 (h - 1)))
  else if op = 33 then (leadB hs a.toNat h, leadH hs a.toNat h) else (true, hs)
def nxtX (op : Int) (q : Bool × List Int) (i : Nat) (x : Int) : Bool × List Int :=
  if op = 33 then q else if q.1 = true then (leadB q.2 (i + 1) x, leadH q.2 (i + 1) x) else (false, q.2)
def outX (q : Bool × List Int) : Nat × List Int := if q.1 = true then (0, q.2) else (2001, q.2)
def nameX (op a texts depth : Int) : Bool := if op = 5 then decide (a < 0) || decide (texts ≤ a) else if op = 7 then decide (a < 0) || decide (texts ≤ a) else if op = 6 then decide (a < 0) || decide (depth ≤ a) else false
def oneX (op a : Int) (n : Nat) (texts depth : Int) (hs : List Int) (i : Nat) : Nat × List Int :=
  if hs.getD i 0 < 0 then (2001, hs)
  else if formB op a = false then (2000, hs)
  else if nameX op a texts depth = true then (2003, hs)
  else if jumpsB op = true ∧ (a ≤ (i : Int) ∨ (n : Int) < a) then (2002, hs)
  else if hs.getD i 0 < (wantN op).1 then (2001, hs)
  else outX (nxtX op (jmpX op a hs (hs.getD i 0)) i (IntKind.wrap .i64 (hs.getD i 0 + (wantN op).2)))
theorem jmpX_len (op a : Int) (hs : List Int) (h : Int) : (jmpX op a hs h).2.length = hs.length := by
  unfold jmpX
  repeat' split
  all_goals simp [leadH_len]
theorem nxtX_len (op : Int) (q : Bool × List Int) (i : Nat) (x : Int) : (nxtX op q i x).2.length = q.2.length := by
  unfold nxtX
  repeat' split
  all_goals simp [leadH_len]
theorem oneX_len (op a : Int) (n : Nat) (texts depth : Int) (hs : List Int) (i : Nat) : (oneX op a n texts depth hs i).2.length = hs.length := by
  unfold oneX outX
  repeat' split
  all_goals simp [nxtX_len, jmpX_len]

/-- The checker in memory. -/
structure Chk (c hid k : Nat) (v : AV) (texts depth : Int) (hs : List Int) (op a : Int) (S : Sto) : Prop where
  kc : S[c]? = some (.cells 0 [v, .int .i64 texts, .int .i64 depth, .ms hid 0 0 hs.length 1] 0)
  kh : S[hid]? = some (.cells 0 (hcellsI hs) 0)
  kx : S[k]? = some (.cells 0 [.int .i64 op, .int .i64 a] 0)
  n1 : c ≠ hid
  n2 : k ≠ hid
theorem Chk.set {c hid k : Nat} {v : AV} {texts depth : Int} {hs ks : List Int} {op a : Int} {S : Sto} (h : Chk c hid k v texts depth hs op a S) (hl : ks.length = hs.length) : Chk c hid k v texts depth ks op a (S.set hid (.cells 0 (hcellsI ks) 0)) := by
  have hlt := (List.getElem?_eq_some_iff.1 h.kh).1
  exact ⟨by rw [List.getElem?_set_ne (Ne.symm h.n1), hl]; exact h.kc, List.getElem?_set_self hlt, by rw [List.getElem?_set_ne (Ne.symm h.n2)]; exact h.kx, h.n1, h.n2⟩

section
variable {c hid k : Nat} {v : AV} {texts depth : Int} {hs : List Int} {op a : Int} {S : Sto} {i : Nat}
theorem one_out (f : Bool) (S : Sto) : code_checker_one.p1111111 (.bool f) S = some ⟨.ret (.int .i64 ((if f = true then 0 else 2001 : Nat) : Int)), none, S⟩ := by
  rw [code_checker_one.p1111111_eq]
  cases f <;> rfl

theorem one_next (H : Chk c hid k v texts depth hs op a S) (hi : i + 1 < hs.length) (hib : i ≤ 100000) (h mo need : Int) (f : Bool) :
    code_checker_one.p111111 (.mp c 0 0) ((i : Nat) : Int) k (.int .i64 h) (.int .i64 mo) (.bool f) S = some ⟨.ret (.int .i64 (((outX (nxtX op (f, hs) i (IntKind.wrap .i64 (h + mo)))).1 : Nat) : Int)), none, S.set hid (.cells 0 (hcellsI (outX (nxtX op (f, hs) i (IntKind.wrap .i64 (h + mo)))).2) 0)⟩ := by
  have g0 : ld false 1 S (.mp k 0 0) = some (.int .i64 op) := m_get H.kx rfl
  have w1 : IntKind.wrap .i64 (((i : Nat) : Int) + 1) = ((i + 1 : Nat) : Int) := w64 _ (by omega) (by omega)
  rw [code_checker_one.p111111_eq]
  refine (br g0).trans ?_
  refine (br (aI _)).trans ?_
  by_cases h33 : op = 33
  · refine (bf (by simp [h33])).trans ?_
    rw [one_out]
    simp only [nxtX, h33, if_true, outX]
    cases f <;> simp [set_same H.kh]
  · refine (bt (by simp [h33])).trans ?_
    refine (br (gB f)).trans ?_
    refine gs.trans ?_
    cases f with
    | false =>
      refine (bf rfl).trans ?_
      rw [one_out]
      simp only [nxtX, h33, if_false, outX, Bool.false_eq_true]
      simp [set_same H.kh]
    | true =>
      refine (bt rfl).trans ?_
      refine (br (aI _)).trans ?_
      refine (br (aI _)).trans ?_
      rw [w1]
      refine (cr (lead_spec _ H.kc H.kh H.n1 hi)).trans ?_
      refine (br (aB _)).trans ?_
      rw [one_out]
      simp only [nxtX, h33, if_false, if_true, outX, leadB]
      split <;> rfl

theorem one_jump (H : Chk c hid k v texts depth hs op a S) (hi : i + 1 < hs.length) (hib : i ≤ 100000) (hj : jumpsB op = true → (i : Int) < a ∧ a < (hs.length : Int)) (h mo : Int) (t103 : Bool) (ht : t103 = decide (op = 30) ∨ t103 = decide (op = 31) ∧ op ≠ 30) :
    code_checker_one.p111110101 (.mp c 0 0) ((i : Nat) : Int) k (.int .i64 h) (.int .i64 mo) true (.int .i64 op) (decide (op = 30 ∨ op = 31)) S = some ⟨.ret (.int .i64 (((outX (nxtX op (jmpX op a hs h) i (IntKind.wrap .i64 (h + mo)))).1 : Nat) : Int)), none, S.set hid (.cells 0 (hcellsI (outX (nxtX op (jmpX op a hs h) i (IntKind.wrap .i64 (h + mo)))).2) 0)⟩ := by
  have g1 : ld false 1 S (.mp k 0 1) = some (.int .i64 a) := m_get H.kx rfl
  have hlt := (List.getElem?_eq_some_iff.1 H.kh).1
  have lead : ∀ (x : Int), (30 ≤ op ∧ op ≤ 33) → CallR ap 45 [.mp c 0 0, .int .i64 a, .int .i64 x] S = some (.ret (.bool (leadB hs a.toNat x)), S.set hid (.cells 0 (hcellsI (leadH hs a.toNat x)) 0)) := fun x hop => by
    obtain ⟨j1, j2⟩ := hj (by simp [jumpsB, hop.1, hop.2])
    have e : a = ((a.toNat : Nat) : Int) := by omega
    have := lead_spec (to := a.toNat) x H.kc H.kh H.n1 (by omega)
    rw [← e] at this
    exact this
  have fin : ∀ (x : Int) (hop : 30 ≤ op ∧ op ≤ 33), jmpX op a hs h = (leadB hs a.toNat x, leadH hs a.toNat x) → code_checker_one.p111111 (.mp c 0 0) ((i : Nat) : Int) k (.int .i64 h) (.int .i64 mo) (.bool (leadB hs a.toNat x)) (S.set hid (.cells 0 (hcellsI (leadH hs a.toNat x)) 0)) = some ⟨.ret (.int .i64 (((outX (nxtX op (jmpX op a hs h) i (IntKind.wrap .i64 (h + mo)))).1 : Nat) : Int)), none, S.set hid (.cells 0 (hcellsI (outX (nxtX op (jmpX op a hs h) i (IntKind.wrap .i64 (h + mo)))).2) 0)⟩ := fun x hop e => by
    rw [one_next (H.set (leadH_len _ _ _)) (by rw [leadH_len]; exact hi) hib h mo 0, e, List.set_set]
  rw [code_checker_one.p111110101_eq]
  by_cases h30 : op = 30 ∨ op = 31
  · refine (bt (dtrue h30)).trans ?_
    refine (br g1).trans ?_
    refine (cr (lead h (by omega))).trans ?_
    refine fin h (by omega) ?_
    unfold jmpX
    rcases h30 with e | e
    · rw [if_pos e]
    · rw [if_neg (by omega), if_pos e]
  · refine (bf (dfalse h30)).trans ?_
    refine (br (aI _)).trans ?_
    by_cases h32 : op = 32
    · refine (bt (dtrue h32)).trans ?_
      refine (br g1).trans ?_
      refine (br (aI _)).trans ?_
      refine (cr (lead _ (by omega))).trans ?_
      refine fin _ (by omega) ?_
      unfold jmpX
      rw [if_neg (by omega), if_neg (by omega), if_pos h32]
    · refine (bf (dfalse h32)).trans ?_
      refine (br (aI _)).trans ?_
      by_cases h33 : op = 33
      · refine (bt (dtrue h33)).trans ?_
        refine (br g1).trans ?_
        refine (cr (lead h (by omega))).trans ?_
        refine fin h (by omega) ?_
        unfold jmpX
        rw [if_neg (by omega), if_neg (by omega), if_neg (by omega), if_pos h33]
      · refine (bf (dfalse h33)).trans ?_
        have e : jmpX op a hs h = (true, hs) := by
          unfold jmpX
          rw [if_neg (by omega), if_neg (by omega), if_neg (by omega), if_neg h33]
        rw [one_next H hi hib h mo 0, e]

/-- From the heights on. -/
theorem one_high (H : Chk c hid k v texts depth hs op a S) (hi : i + 1 < hs.length) (hib : i ≤ 100000) (hj : jumpsB op = true → (i : Int) < a ∧ a < (hs.length : Int)) (h need mo : Int) :
    code_checker_one.p111001111111 (.mp c 0 0) ((i : Nat) : Int) k (.int .i64 h) (.int .i64 need) (.int .i64 mo) false S = (if h < need then some ⟨.ret (.int .i64 2001), none, S⟩ else some ⟨.ret (.int .i64 (((outX (nxtX op (jmpX op a hs h) i (IntKind.wrap .i64 (h + mo)))).1 : Nat) : Int)), none, S.set hid (.cells 0 (hcellsI (outX (nxtX op (jmpX op a hs h) i (IntKind.wrap .i64 (h + mo)))).2) 0)⟩) := by
  have g0 : ld false 1 S (.mp k 0 0) = some (.int .i64 op) := m_get H.kx rfl
  rw [code_checker_one.p111001111111_eq]
  refine (bf rfl).trans ?_
  refine (br (aI _)).trans ?_
  refine (br (aI _)).trans ?_
  by_cases hn : h < need
  · rw [if_pos hn]
    exact bt (dtrue hn)
  · rw [if_neg hn]
    refine (bf (dfalse hn)).trans ?_
    refine (br g0).trans ?_
    refine (br (aI _)).trans ?_
    by_cases h30 : op = 30
    · refine (bt (dtrue h30)).trans ?_
      have e : decide (op = 30) = decide (op = 30 ∨ op = 31) := by simp [h30]
      rw [e]
      exact one_jump H hi hib hj h mo _ (.inl rfl)
    · refine (bf (dfalse h30)).trans ?_
      refine (br (aI _)).trans ?_
      have e : decide (op = 31) = decide (op = 30 ∨ op = 31) := by simp [h30]
      rw [e]
      exact one_jump H hi hib hj h mo _ (.inl rfl)

/-- From the jump's place on. -/
theorem one_jplace {code : List (Int × Int)} (hv : InsV code v) (hl : hs.length = code.length + 1) (H : Chk c hid k v texts depth hs op a S) (hi : i < code.length) (hib : i ≤ 100000) (h need mo : Int) (hh : h = hs.getD i 0) (hneed : need = (wantN op).1) (hmo : mo = (wantN op).2) (h0 : ¬ h < 0) (hform : formB op a ≠ false) (hname : nameX op a texts depth = false) :
    code_checker_one.p1110011111 (.mp c 0 0) ((i : Nat) : Int) k (.int .i64 h) (.int .i64 need) (.int .i64 mo) false S = some ⟨.ret (.int .i64 (((oneX op a code.length texts depth hs i).1 : Nat) : Int)), none, S.set hid (.cells 0 (hcellsI (oneX op a code.length texts depth hs i).2) 0)⟩ := by
  have g0 : ld false 1 S (.mp k 0 0) = some (.int .i64 op) := m_get H.kx rfl
  have g1 : ld false 1 S (.mp k 0 1) = some (.int .i64 a) := m_get H.kx rfl
  have gc0 : ld false 1 S (.mp c 0 (0 + 0)) = some v := m_get H.kc rfl
  have f0 : fa 0 1 (.mp c 0 0) = some (.mp c 0 (0 + 0)) := rfl
  have hn : nilCk (.mp c 0 0) = some (.mp c 0 0) := rfl
  subst hh hneed hmo
  have fin : ∀ (b : Bool), b = decide (jumpsB op = true ∧ (a ≤ (i : Int) ∨ ((code.length : Nat) : Int) < a)) → code_checker_one.p111001111111 (.mp c 0 0) ((i : Nat) : Int) k (.int .i64 (hs.getD i 0)) (.int .i64 (wantN op).1) (.int .i64 (wantN op).2) b S = some ⟨.ret (.int .i64 (((oneX op a code.length texts depth hs i).1 : Nat) : Int)), none, S.set hid (.cells 0 (hcellsI (oneX op a code.length texts depth hs i).2) 0)⟩ := by
    intro b hb
    unfold oneX
    rw [if_neg h0, if_neg hform, if_neg (by simp [hname])]
    by_cases hj : jumpsB op = true ∧ (a ≤ (i : Int) ∨ ((code.length : Nat) : Int) < a)
    · rw [dtrue hj] at hb
      subst hb
      rw [if_pos hj, code_checker_one.p111001111111_eq]
      rw [set_same H.kh]
      rfl
    · rw [dfalse hj] at hb
      subst hb
      rw [if_neg hj, one_high H (by omega) hib (fun e => by
        have : ¬ (a ≤ (i : Int) ∨ ((code.length : Nat) : Int) < a) := fun h => hj ⟨e, h⟩
        omega)]
      split
      · rw [set_same H.kh]
        rfl
      · rfl
  rw [code_checker_one.p1110011111_eq]
  refine (bf rfl).trans ?_
  refine (br g0).trans ?_
  refine (cr (jumps_spec op S)).trans ?_
  refine (it rfl).trans ?_
  refine (br (gB _)).trans ?_
  refine gs.trans ?_
  cases hj : jumpsB op with
  | false =>
    refine (bf rfl).trans ?_
    exact fin false (by simp [hj])
  | true =>
    refine (bt rfl).trans ?_
    refine (br g1).trans ?_
    refine (br (aI _)).trans ?_
    by_cases ha : a ≤ (i : Int)
    · refine (bt (dtrue ha)).trans ?_
      exact fin true (by simp [hj, ha])
    · refine (bf (dfalse ha)).trans ?_
      refine (br g1).trans ?_
      refine (br hn).trans ?_
      refine (br f0).trans ?_
      refine (br gc0).trans ?_
      refine (br hv.len).trans ?_
      refine (br (aI _)).trans ?_
      exact fin _ (by simp [hj, ha])

/-- From the names on. -/
theorem one_var {code : List (Int × Int)} (hv : InsV code v) (hl : hs.length = code.length + 1) (H : Chk c hid k v texts depth hs op a S) (hi : i < code.length) (hib : i ≤ 100000) (h need mo : Int) (hh : h = hs.getD i 0) (hneed : need = (wantN op).1) (hmo : mo = (wantN op).2) (h0 : ¬ h < 0) (hform : formB op a ≠ false) (b : Bool) (hb : b = if op = 5 ∨ op = 7 then (decide (a < 0) || decide (texts ≤ a)) else false) :
    code_checker_one.p11100111101 (.mp c 0 0) ((i : Nat) : Int) k (.int .i64 h) (.int .i64 need) (.int .i64 mo) b S = some ⟨.ret (.int .i64 (((oneX op a code.length texts depth hs i).1 : Nat) : Int)), none, S.set hid (.cells 0 (hcellsI (oneX op a code.length texts depth hs i).2) 0)⟩ := by
  have g0 : ld false 1 S (.mp k 0 0) = some (.int .i64 op) := m_get H.kx rfl
  have g1 : ld false 1 S (.mp k 0 1) = some (.int .i64 a) := m_get H.kx rfl
  have gc2 : ld false 1 S (.mp c 0 (0 + 2)) = some (.int .i64 depth) := m_get H.kc rfl
  have f2 : fa 2 1 (.mp c 0 0) = some (.mp c 0 (0 + 2)) := rfl
  have hn : nilCk (.mp c 0 0) = some (.mp c 0 0) := rfl
  have bad : nameX op a texts depth = true → code_checker_one.p1110011111 (.mp c 0 0) ((i : Nat) : Int) k (.int .i64 h) (.int .i64 need) (.int .i64 mo) true S = some ⟨.ret (.int .i64 (((oneX op a code.length texts depth hs i).1 : Nat) : Int)), none, S.set hid (.cells 0 (hcellsI (oneX op a code.length texts depth hs i).2) 0)⟩ := fun hname => by
    subst hh
    unfold oneX
    rw [if_neg h0, if_neg hform, if_pos hname, code_checker_one.p1110011111_eq, set_same H.kh]
    rfl
  have fin : ∀ q : Bool, q = nameX op a texts depth → code_checker_one.p1110011111 (.mp c 0 0) ((i : Nat) : Int) k (.int .i64 h) (.int .i64 need) (.int .i64 mo) q S = some ⟨.ret (.int .i64 (((oneX op a code.length texts depth hs i).1 : Nat) : Int)), none, S.set hid (.cells 0 (hcellsI (oneX op a code.length texts depth hs i).2) 0)⟩ := fun q hq => by
    cases q with
    | true => exact bad hq.symm
    | false => exact one_jplace hv hl H hi hib h need mo hh hneed hmo h0 hform hq.symm
  rw [code_checker_one.p11100111101_eq]
  cases b with
  | true =>
    refine (bt rfl).trans ?_
    refine fin true ?_
    unfold nameX
    by_cases h5 : op = 5
    · rw [if_pos h5]; rw [if_pos (.inl h5)] at hb; exact hb
    · rw [if_neg h5]
      by_cases h7 : op = 7
      · rw [if_pos h7]; rw [if_pos (.inr h7)] at hb; exact hb
      · rw [if_neg (by omega)] at hb; cases hb
  | false =>
    refine (bf rfl).trans ?_
    refine (br g0).trans ?_
    refine (br (aI _)).trans ?_
    by_cases h6 : op = 6
    · refine (bt (dtrue h6)).trans ?_
      refine (br g1).trans ?_
      refine (br (aI _)).trans ?_
      have e : nameX op a texts depth = (decide (a < 0) || decide (depth ≤ a)) := by
        unfold nameX
        rw [if_neg (by omega), if_neg (by omega), if_pos h6]
      by_cases ha : a < 0
      · refine (bt (dtrue ha)).trans ?_
        exact fin true (by rw [e]; simp [ha])
      · refine (bf (dfalse ha)).trans ?_
        refine (br g1).trans ?_
        refine (br hn).trans ?_
        refine (br f2).trans ?_
        refine (br gc2).trans ?_
        refine (br (aI _)).trans ?_
        refine (br (aI _)).trans ?_
        exact fin _ (by rw [e]; simp [ha])
    · refine (bf (dfalse h6)).trans ?_
      refine fin false ?_
      unfold nameX
      by_cases h5 : op = 5
      · rw [if_pos h5]; rw [if_pos (.inl h5)] at hb; exact hb
      · rw [if_neg h5]
        by_cases h7 : op = 7
        · rw [if_pos h7]; rw [if_pos (.inr h7)] at hb; exact hb
        · rw [if_neg h7, if_neg h6]

theorem one_spec {code : List (Int × Int)} {st : Sto} (hv : InsV code v) (hl : hs.length = code.length + 1) (hc : st[c]? = some (.cells 0 [v, .int .i64 texts, .int .i64 depth, .ms hid 0 0 hs.length 1] 0)) (hh : st[hid]? = some (.cells 0 (hcellsI hs) 0)) (hne : c ≠ hid) (hi : i < code.length) (hib : i ≤ 100000) (hx : code[i]? = some (op, a)) :
    CallR ap 30 [.mp c 0 0, .int .i64 ((i : Nat) : Int)] st = some (.ret (.int .i64 (((oneX op a code.length texts depth hs i).1 : Nat) : Int)), st.set hid (.cells 0 (hcellsI (oneX op a code.length texts depth hs i).2) 0)) := by
  have hcl := (List.getElem?_eq_some_iff.1 hc).1
  have hhl := (List.getElem?_eq_some_iff.1 hh).1
  have hn : nilCk (.mp c 0 0) = some (.mp c 0 0) := rfl
  have f0 : fa 0 1 (.mp c 0 0) = some (.mp c 0 (0 + 0)) := rfl
  have f1 : fa 1 1 (.mp c 0 0) = some (.mp c 0 (0 + 1)) := rfl
  have f3 : fa 3 1 (.mp c 0 0) = some (.mp c 0 (0 + 3)) := rfl
  have hia := ins_at hv hx
  have hih : ia 1 (.ms hid 0 0 hs.length 1) (.int .i64 ((i : Nat) : Int)) = some (.mp hid 0 i) := by
    simp only [ia, if_true, idx_nat (show i < hs.length by omega), Option.bind_some, Nat.zero_add, Nat.mul_one]
  have gd : (hcellsI hs)[i]? = some (.int .i64 (hs.getD i 0)) := by
    have : i < hs.length := by omega
    simp [hcellsI, List.getElem?_eq_getElem this, List.getD_eq_getElem?_getD]
  have rd : ∀ S : Sto, (∀ j o, st[j]? = some o → S[j]? = some o) → ld false 1 S (.mp c 0 (0 + 0)) = some v ∧ ld false 1 S (.mp c 0 (0 + 1)) = some (.int .i64 texts) ∧ ld false 1 S (.mp c 0 (0 + 3)) = some (.ms hid 0 0 hs.length 1) ∧ ld false 1 S (.mp hid 0 i) = some (.int .i64 (hs.getD i 0)) := fun S hS =>
    ⟨m_get (hS _ _ hc) rfl, m_get (hS _ _ hc) rfl, m_get (hS _ _ hc) rfl, m_get (n := i) (hS _ _ hh) gd⟩
  obtain ⟨r0, r1, r3, r4⟩ := rd st fun _ _ h => h
  obtain ⟨Z, hZ⟩ : ∃ Z, Z = st ++ [Ob.cells 0 [.int .i64 0, .int .i64 0] 0] := ⟨_, rfl⟩
  obtain ⟨z0, z1, z3, z4⟩ := rd Z fun _ _ h => by rw [hZ]; exact app_get h
  obtain ⟨S, hS⟩ : ∃ S, S = st ++ [Ob.cells 0 [.int .i64 op, .int .i64 a] 0] := ⟨_, rfl⟩
  obtain ⟨s0, s1, s3, s4⟩ := rd S fun _ _ h => by rw [hS]; exact app_get h
  have hsto : sto 2 Z (.mp st.length 0 0) (.agg [.int .i64 op, .int .i64 a]) = some S := by rw [hZ, hS]; exact m_new (cs := [.int .i64 0, .int .i64 0]) (cs' := [.int .i64 op, .int .i64 a]) rfl rfl rfl
  have H : Chk c hid st.length v texts depth hs op a S := ⟨by rw [hS]; exact app_get hc, by rw [hS]; exact app_get hh, by rw [hS]; simp, hne, by omega⟩
  have g0 : ld false 1 S (.mp st.length 0 0) = some (.int .i64 op) := m_get H.kx rfl
  have g1 : ld false 1 S (.mp st.length 0 1) = some (.int .i64 a) := m_get H.kx rfl
  have g2 : ld true 2 S (.mp st.length 0 0) = some (.agg [.int .i64 op, .int .i64 a]) := m_all H.kx rfl
  suffices hb : code_checker_one.b (.mp c 0 0) ((i : Nat) : Int) st = some ⟨.ret (.int .i64 (((oneX op a code.length texts depth hs i).1 : Nat) : Int)), none, S.set hid (.cells 0 (hcellsI (oneX op a code.length texts depth hs i).2) 0)⟩ by
    rw [code_checker_one.call]
    refine ret_set (l := [Ob.cells 0 [.int .i64 op, .int .i64 a] 0]) ?_ rfl rfl ?_
    · rw [hb, hS, List.set_append_left _ _ hhl]
    · have : olds st.length (hcellsI (oneX op a code.length texts depth hs i).2) = true := by
        rw [olds_iff]
        intro y hy
        simp only [hcellsI, List.mem_map] at hy
        obtain ⟨z, _, rfl⟩ := hy
        rfl
      simpa only [Ob.old] using this
  have l2' : ∀ S : Sto, ld true 2 S (.ip [.int .i64 op, .int .i64 a]) = some (.agg [.int .i64 op, .int .i64 a]) := fun _ => rfl
  rw [code_checker_one.b_eq, ← hZ]
  refine (br hn).trans ?_
  refine (br f0).trans ?_
  refine (br r0).trans ?_
  refine (br hia).trans ?_
  refine (br (l2' st)).trans ?_
  refine (br hn).trans ?_
  refine (br f3).trans ?_
  refine (br r3).trans ?_
  refine (br hih).trans ?_
  refine (br r4).trans ?_
  refine (br z4).trans ?_
  refine (it rfl).trans ?_
  refine (br z3).trans ?_
  refine (it rfl).trans ?_
  refine (br (l2' Z)).trans ?_
  refine (it rfl).trans ?_
  refine (br z0).trans ?_
  refine (it rfl).trans ?_
  refine (br hsto).trans ?_
  refine (br s4).trans ?_
  refine (it rfl).trans ?_
  refine (br s3).trans ?_
  refine (it rfl).trans ?_
  refine (br g0).trans ?_
  refine (cr (wants_spec op S)).trans ?_
  refine (br (x0 _ _)).trans ?_
  refine (br (x1 _ _ _)).trans ?_
  refine (br (aI _)).trans ?_
  by_cases h0 : hs.getD i 0 < 0
  · refine (bt (dtrue h0)).trans ?_
    unfold oneX
    rw [if_pos h0, set_same H.kh]
    rfl
  · refine (bf (dfalse h0)).trans ?_
    refine (br g2).trans ?_
    refine (cr (codeForm_spec op a S)).trans ?_
    refine (br (aB _)).trans ?_
    cases hf : formB op a with
    | false =>
      refine (bt rfl).trans ?_
      unfold oneX
      rw [if_neg h0, if_pos hf, set_same H.kh]
      rfl
    | true =>
      have hform : formB op a ≠ false := by rw [hf]; simp
      refine (bf rfl).trans ?_
      refine (br g0).trans ?_
      refine (br (aI _)).trans ?_
      by_cases h5 : op = 5
      · refine (bt (dtrue h5)).trans ?_
        refine (br g1).trans ?_
        refine (br (aI _)).trans ?_
        by_cases ha : a < 0
        · refine (bt (dtrue ha)).trans ?_
          exact one_var hv hl H hi hib _ _ _ rfl rfl rfl h0 hform true (by rw [if_pos (.inl h5)]; simp [ha])
        · refine (bf (dfalse ha)).trans ?_
          refine (br g1).trans ?_
          refine (br hn).trans ?_
          refine (br f1).trans ?_
          refine (br s1).trans ?_
          refine (br (aI _)).trans ?_
          refine (br (aI _)).trans ?_
          exact one_var hv hl H hi hib _ _ _ rfl rfl rfl h0 hform _ (by rw [if_pos (.inl h5)]; simp [ha])
      · refine (bf (dfalse h5)).trans ?_
        refine (br g0).trans ?_
        refine (br (aI _)).trans ?_
        by_cases h7 : op = 7
        · refine (bt (dtrue h7)).trans ?_
          refine (br g1).trans ?_
          refine (br (aI _)).trans ?_
          by_cases ha : a < 0
          · refine (bt (dtrue ha)).trans ?_
            exact one_var hv hl H hi hib _ _ _ rfl rfl rfl h0 hform true (by rw [if_pos (.inr h7)]; simp [ha])
          · refine (bf (dfalse ha)).trans ?_
            refine (br g1).trans ?_
            refine (br hn).trans ?_
            refine (br f1).trans ?_
            refine (br s1).trans ?_
            refine (br (aI _)).trans ?_
            refine (br (aI _)).trans ?_
            exact one_var hv hl H hi hib _ _ _ rfl rfl rfl h0 hform _ (by rw [if_pos (.inr h7)]; simp [ha])
        · refine (bf (dfalse h7)).trans ?_
          exact one_var hv hl H hi hib _ _ _ rfl rfl rfl h0 hform false (by rw [if_neg (by omega)])

/-! ### Check -/
def ckGo (code : List (Int × Int)) (texts depth : Int) : Nat → Nat → List Int → Nat
  | 0, i, hs => if hs.getD i 0 = 1 then 0 else 2001
  | m + 1, i, hs => if (oneX (code.getD i (0, 0)).1 (code.getD i (0, 0)).2 code.length texts depth hs i).1 = 0 then ckGo code texts depth m (i + 1) (oneX (code.getD i (0, 0)).1 (code.getD i (0, 0)).2 code.length texts depth hs i).2 else (oneX (code.getD i (0, 0)).1 (code.getD i (0, 0)).2 code.length texts depth hs i).1
def hs0 (n : Nat) : List Int := 0 :: List.replicate n (-1)
def ckC (code : List (Int × Int)) (texts depth : Int) : Nat := if 8192 < code.length then 2004 else ckGo code texts depth code.length 0 (hs0 code.length)

theorem ck_loop {code : List (Int × Int)} (hv : InsV code v) (hcl : code.length ≤ 8192) (n : Nat) (hne : c ≠ hid) (hcn : n ≤ c) (hhn : n ≤ hid) : ∀ (m i : Nat) (hs : List Int) (S : Sto), i + m = code.length → hs.length = code.length + 1 → S[c]? = some (.cells 0 [v, .int .i64 texts, .int .i64 depth, .ms hid 0 0 hs.length 1] 0) → S[hid]? = some (.cells 0 (hcellsI hs) 0) →
    ∃ S', code_Check.p111110100 v c ((code.length : Nat) : Int) ((i : Nat) : Int) S = some ⟨.ret (.int .i64 ((ckGo code texts depth m i hs : Nat) : Int)), none, S'⟩ ∧ Keeps n S S' := by
  intro m
  induction m with
  | zero =>
    intro i hs S him hl hc hh
    have g3 : ld false 1 S (.mp c 0 3) = some (.ms hid 0 0 hs.length 1) := m_get hc rfl
    have hih : ia 1 (.ms hid 0 0 hs.length 1) (.int .i64 ((code.length : Nat) : Int)) = some (.mp hid 0 code.length) := by
      simp only [ia, if_true, idx_nat (show code.length < hs.length by omega), Option.bind_some, Nat.zero_add, Nat.mul_one]
    have gd : (hcellsI hs)[code.length]? = some (.int .i64 (hs.getD code.length 0)) := by
      have : code.length < hs.length := by omega
      simp [hcellsI, List.getElem?_eq_getElem this, List.getD_eq_getElem?_getD]
    have r4 : ld false 1 S (.mp hid 0 code.length) = some (.int .i64 (hs.getD code.length 0)) := m_get (n := code.length) hh gd
    have hi : i = code.length := by omega
    subst hi
    refine ⟨S, ?_, Keeps.refl _ _⟩
    rw [code_Check.p111110100_eq]
    refine (bf (dfalse (by omega))).trans ?_
    refine (br g3).trans ?_
    refine (br hv.len).trans ?_
    refine (br hih).trans ?_
    refine (br r4).trans ?_
    refine (br (aI _)).trans ?_
    simp only [ckGo]
    by_cases h1 : hs.getD code.length 0 = 1
    · rw [if_pos h1]
      exact bf (by simp only [h1, decide_true, Bool.not_true])
    · rw [if_neg h1]
      exact bt (by simp only [h1, decide_false, Bool.not_false])
  | succ m ih =>
    intro i hs S him hl hc hh
    have hi : i < code.length := by omega
    obtain ⟨x, hx⟩ : ∃ x, code[i]? = some x := ⟨_, List.getElem?_eq_getElem hi⟩
    obtain ⟨op, a⟩ := x
    have hgd : code.getD i (0, 0) = (op, a) := by rw [List.getD_eq_getElem?_getD, hx]; rfl
    have h1 := one_spec hv hl hc hh hne hi (by omega) hx
    have hlt := (List.getElem?_eq_some_iff.1 hh).1
    have hk : Keeps n S (S.set hid (.cells 0 (hcellsI (oneX op a code.length texts depth hs i).2) 0)) := Keeps.set hhn
    have w1 : IntKind.wrap .i64 (((i : Nat) : Int) + 1) = ((i + 1 : Nat) : Int) := w64 _ (by omega) (by omega)
    simp only [ckGo, hgd]
    by_cases he : (oneX op a code.length texts depth hs i).1 = 0
    · obtain ⟨S', k1, k2⟩ := ih (i + 1) (oneX op a code.length texts depth hs i).2 (S.set hid (.cells 0 (hcellsI (oneX op a code.length texts depth hs i).2) 0)) (by omega) (by rw [oneX_len]; exact hl) (by rw [List.getElem?_set_ne (Ne.symm hne), oneX_len]; exact hc) (List.getElem?_set_self hlt)
      refine ⟨S', ?_, hk.trans k2⟩
      rw [if_pos he, code_Check.p111110100_eq]
      refine (bt (dtrue (by omega))).trans ?_
      refine (cr h1).trans ?_
      refine (br (aI _)).trans ?_
      refine (bf (by rw [he]; rfl)).trans ?_
      rw [w1]
      exact k1
    · refine ⟨_, ?_, hk⟩
      rw [if_neg he, code_Check.p111110100_eq]
      refine (bt (dtrue (by omega))).trans ?_
      refine (cr h1).trans ?_
      refine (br (aI _)).trans ?_
      exact bt (by simp; omega)

theorem reps_int (n : Nat) : reps n [AV.int .i64 0] = hcellsI (List.replicate n 0) := by
  induction n with
  | zero => rfl
  | succ n ih => simp only [reps, ih, hcellsI, List.replicate_succ, List.map_cons]; rfl

/-- All heights to -1. -/
theorem ck_fill {code : List (Int × Int)} (hcl : code.length ≤ 8192) (n : Nat) (hne : c ≠ hid) (hhn : n ≤ hid) : ∀ (m i : Nat) (S : Sto), i + m = code.length + 1 → S[c]? = some (.cells 0 [v, .int .i64 texts, .int .i64 depth, .ms hid 0 0 (code.length + 1) 1] 0) → S[hid]? = some (.cells 0 (hcellsI (List.replicate i (-1) ++ List.replicate m 0)) 0) →
    ∃ S', code_Check.p1110100 v c ((code.length + 1 : Nat) : Int) ((i : Nat) : Int) S = code_Check.p1110100 v c ((code.length + 1 : Nat) : Int) ((code.length + 1 : Nat) : Int) S' ∧ Keeps n S S' ∧ S'[c]? = S[c]? ∧ S'[hid]? = some (.cells 0 (hcellsI (List.replicate (code.length + 1) (-1))) 0) := by
  intro m
  induction m with
  | zero =>
    intro i S him hc hh
    have hi : i = code.length + 1 := by omega
    subst hi
    exact ⟨S, rfl, Keeps.refl _ _, rfl, by rw [hh]; simp⟩
  | succ m ih =>
    intro i S him hc hh
    have g3 : ld false 1 S (.mp c 0 3) = some (.ms hid 0 0 (code.length + 1) 1) := m_get hc rfl
    have hih : ia 1 (.ms hid 0 0 (code.length + 1) 1) (.int .i64 ((i : Nat) : Int)) = some (.mp hid 0 i) := by
      simp only [ia, if_true, idx_nat (show i < code.length + 1 by omega), Option.bind_some, Nat.zero_add, Nat.mul_one]
    have hlt := (List.getElem?_eq_some_iff.1 hh).1
    have w1 : IntKind.wrap .i64 (((i : Nat) : Int) + 1) = ((i + 1 : Nat) : Int) := w64 _ (by omega) (by omega)
    have hset : (hcellsI (List.replicate i (-1) ++ List.replicate (m + 1) 0)).set i (AV.int .i64 (-1)) = hcellsI (List.replicate (i + 1) (-1) ++ List.replicate m 0) := by
      simp only [hcellsI, List.map_append, List.map_replicate]
      rw [List.set_append_right _ _ (by simp), List.length_replicate, Nat.sub_self, List.replicate_succ, List.set_cons_zero, List.replicate_succ', List.append_assoc]
      rfl
    have hst : sto 1 S (.mp hid 0 i) (.int .i64 (-1)) = some (S.set hid (.cells 0 (hcellsI (List.replicate (i + 1) (-1) ++ List.replicate m 0)) 0)) := by
      rw [sto_at hh (by simp [hcellsI]) rfl rfl, hset]
    obtain ⟨S', k1, k2, k3, k4⟩ := ih (i + 1) (S.set hid (.cells 0 (hcellsI (List.replicate (i + 1) (-1) ++ List.replicate m 0)) 0)) (by omega) (by rw [List.getElem?_set_ne (Ne.symm hne)]; exact hc) (List.getElem?_set_self hlt)
    refine ⟨S', ?_, (Keeps.set hhn).trans k2, by rw [k3, List.getElem?_set_ne (Ne.symm hne)], k4⟩
    rw [← k1, code_Check.p1110100_eq]
    refine (bt (dtrue (by omega))).trans ?_
    refine (br g3).trans ?_
    refine (br hih).trans ?_
    refine (br hst).trans ?_
    rw [w1]

theorem codeCheck_spec {code : List (Int × Int)} (hv : InsV code v) (hlen : code.length ≤ 100000000) (texts depth : Int) (st : Sto) :
    CallR ap 20 [v, .int .i64 texts, .int .i64 depth] st = some (.ret (.int .i64 ((ckC code texts depth : Nat) : Int)), st) := by
  rw [code_Check.call]
  suffices hb : ∃ S', code_Check.b v texts depth st = some ⟨.ret (.int .i64 ((ckC code texts depth : Nat) : Int)), none, S'⟩ ∧ Keeps st.length st S' by
    obtain ⟨S', k1, k2⟩ := hb
    exact ret_keep k1 rfl rfl k2
  rw [code_Check.b_eq]
  unfold ckC
  by_cases hbig : 8192 < code.length
  · rw [if_pos hbig]
    refine ⟨st, ?_, Keeps.refl _ _⟩
    refine (br hv.len).trans ?_
    exact bt (dtrue (by omega))
  · rw [if_neg hbig]
    have w1 : IntKind.wrap .i64 (((code.length : Nat) : Int) + 1) = ((code.length + 1 : Nat) : Int) := w64 _ (by omega) (by omega)
    have hmk : mkS 1 8 [AV.int .i64 0] (.int .i64 ((code.length + 1 : Nat) : Int)) (.int .i64 ((code.length + 1 : Nat) : Int)) st = some (.ms st.length 0 0 (code.length + 1) 1, st ++ [.cells 0 (hcellsI (List.replicate (code.length + 1) 0)) 0]) := by
      simp only [mkS]
      rw [if_pos (by omega), reps_int]
      simp
    have hag : (aggA (fillA (fun i => ([(0, 1), (1, 1), (2, 1), (3, 1)] : List (Nat × Nat))[i]?) [.nils, .int .i64 0, .int .i64 0, .nils] [(0, v), (1, (.int .i64 texts)), (2, (.int .i64 depth)), (3, .ms st.length 0 0 (code.length + 1) 1)])) = some (.agg [v, .int .i64 texts, .int .i64 depth, .ms st.length 0 0 (code.length + 1) 1]) := by
      rcases hv with ⟨rfl, rfl⟩ | ⟨row, tok, rfl⟩ <;> rfl
    have hall : (AV.cells (.agg [v, .int .i64 texts, .int .i64 depth, .ms st.length 0 0 (code.length + 1) 1])).all AV.isCell = true := by
      show ([v, AV.int .i64 texts, AV.int .i64 depth, AV.ms st.length 0 0 (code.length + 1) 1]).all AV.isCell = true
      simp only [List.all_cons, hv.cell.1, List.all_nil, Bool.and_true]
      rfl
    obtain ⟨S, hS⟩ : ∃ S, S = (st ++ [Ob.cells 0 (hcellsI (List.replicate (code.length + 1) 0)) 0]) ++ [Ob.cells 0 [v, .int .i64 texts, .int .i64 depth, .ms st.length 0 0 (code.length + 1) 1] 0] := ⟨_, rfl⟩
    have e1 : (st ++ [Ob.cells 0 (hcellsI (List.replicate (code.length + 1) 0)) 0]).length = st.length + 1 := by simp
    have hc : S[st.length + 1]? = some (.cells 0 [v, .int .i64 texts, .int .i64 depth, .ms st.length 0 0 (code.length + 1) 1] 0) := by rw [hS, ← e1]; simp
    have hh : S[st.length]? = some (.cells 0 (hcellsI (List.replicate 0 (-1) ++ List.replicate (code.length + 1) 0)) 0) := by rw [hS]; simp
    have hk : Keeps st.length st S := by rw [hS, List.append_assoc]; exact Keeps.app (Nat.le_refl _)
    have g3 : ld false 1 S (.mp (st.length + 1) 0 3) = some (.ms st.length 0 0 (code.length + 1) 1) := m_get hc rfl
    obtain ⟨S1, k1, k2, k3, k4⟩ := ck_fill (v := v) (texts := texts) (depth := depth) (code := code) (by omega) st.length (c := st.length + 1) (hid := st.length) (by omega) (Nat.le_refl _) (code.length + 1) 0 S (by omega) hc hh
    have hlt := (List.getElem?_eq_some_iff.1 k4).1
    have hc1 : S1[st.length + 1]? = some (.cells 0 [v, .int .i64 texts, .int .i64 depth, .ms st.length 0 0 (code.length + 1) 1] 0) := k3.trans hc
    have q3 : ld false 1 S1 (.mp (st.length + 1) 0 3) = some (.ms st.length 0 0 (code.length + 1) 1) := m_get hc1 rfl
    have hz : ia 1 (.ms st.length 0 0 (code.length + 1) 1) (.int .i64 0) = some (.mp st.length 0 0) := by
      have := idx_nat (show 0 < code.length + 1 by omega)
      simp only [ia, if_true]
      rw [show (0 : Int) = ((0 : Nat) : Int) from rfl, this]
      rfl
    have hset : (hcellsI (List.replicate (code.length + 1) (-1))).set 0 (AV.int .i64 0) = hcellsI (hs0 code.length) := rfl
    have hst : sto 1 S1 (.mp st.length 0 0) (.int .i64 0) = some (S1.set st.length (.cells 0 (hcellsI (hs0 code.length)) 0)) := by
      rw [sto_at k4 (by simp [hcellsI]) rfl rfl, hset]
    have hl0 : (hs0 code.length).length = code.length + 1 := by simp [hs0]
    obtain ⟨S2, m1, m2⟩ := ck_loop (texts := texts) (depth := depth) (c := st.length + 1) (hid := st.length) hv (by omega) st.length (by omega) (by omega) (Nat.le_refl _) code.length 0 (hs0 code.length) (S1.set st.length (.cells 0 (hcellsI (hs0 code.length)) 0)) (by omega) hl0 (by rw [List.getElem?_set_ne (by omega), hl0]; exact hc1) (List.getElem?_set_self hlt)
    refine ⟨S2, ?_, (hk.trans k2).trans ((Keeps.set (Nat.le_refl _)).trans m2)⟩
    refine (br hv.len).trans ?_
    refine (bf (dfalse (by omega))).trans ?_
    refine (br hv.len).trans ?_
    rw [w1]
    refine (br hmk).trans ?_
    refine (br hag).trans ?_
    refine (it hall).trans ?_
    have ec : AV.cells (.agg [v, .int .i64 texts, .int .i64 depth, .ms st.length 0 0 (code.length + 1) 1]) = [v, .int .i64 texts, .int .i64 depth, .ms st.length 0 0 (code.length + 1) 1] := rfl
    simp only [ec, e1]
    rw [← hS]
    refine (br g3).trans ?_
    refine (br (show lenL (.ms st.length 0 0 (code.length + 1) 1) = some (code.length + 1) from rfl)).trans ?_
    refine k1.trans ?_
    rw [code_Check.p1110100_eq]
    refine (bf (dfalse (by omega))).trans ?_
    refine (br q3).trans ?_
    refine (br hz).trans ?_
    refine (br hst).trans ?_
    refine (br hv.len).trans ?_
    exact m1
end
end Go.Proofs.YtcgepgahgihojaaDoor
