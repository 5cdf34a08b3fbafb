/- Forests: what they are to the machine; a node alone. -/
import Derived.Test.YtcgepgahgihojaaDoorS
import Derived.Test.YtcgepgahgihojaaDoorStS22
namespace Go.Proofs.YtcgepgahgihojaaDoor
open Go.St Go.Lib
set_option linter.unusedVariables false
set_option linter.unusedSimpArgs false

/-- A forest: the first tree (its tag, text, attributes, kids) and the others. -/
inductive Fo where
  | nil
  | cons (tag text : ByteArray) (ats : List (ByteArray × ByteArray)) (kids rest : Fo)

def Fo.len : Fo → Nat
  | .nil => 0
  | .cons _ _ _ _ r => r.len + 1

def asz : List (ByteArray × ByteArray) → Nat
  | [] => 0
  | x :: r => x.1.size + x.2.size + 2 + asz r

/-- At least ats much ats there are bytes, nodes and attributes. -/
def Fo.sz : Fo → Nat
  | .nil => 0
  | .cons tag text ats kids rest => tag.size + text.size + asz ats + kids.sz + rest.sz + 4

def acells : List (ByteArray × ByteArray) → List AV
  | [] => []
  | x :: r => .str x.1 :: .str x.2 :: acells r

def AttV (ats : List (ByteArray × ByteArray)) (v : AV) : Prop := (ats = [] ∧ v = .nils) ∨ ∃ rest tok, v = .is (acells ats ++ rest) ats.length tok

def Row : Fo → List AV → Prop
  | .nil, _ => True
  | .cons tag text ats kids rest, row => ∃ a k r, row = .str tag :: .str text :: a :: k :: r ∧ AttV ats a ∧ ((kids.len = 0 ∧ k = .nils) ∨ ∃ krow tok, k = .is krow kids.len tok ∧ Row kids krow) ∧ Row rest r

def FoV (ts : Fo) (v : AV) : Prop := (ts.len = 0 ∧ v = .nils) ∨ ∃ row tok, v = .is row ts.len tok ∧ Row ts row

theorem len_nil {ts : Fo} (h : ts.len = 0) : ts = .nil := by
  cases ts with
  | nil => rfl
  | cons => simp [Fo.len] at h

theorem asz_len (ats : List (ByteArray × ByteArray)) : 2 * ats.length ≤ asz ats := by
  induction ats with
  | nil => simp [asz]
  | cons x r ih => simp only [asz, List.length_cons]; omega
theorem asz_mem {ats : List (ByteArray × ByteArray)} {x : ByteArray × ByteArray} (h : x ∈ ats) : x.1.size + x.2.size + 2 ≤ asz ats := by
  induction ats with
  | nil => simp at h
  | cons y r ih =>
    simp only [asz]
    rcases List.mem_cons.1 h with rfl | h
    · omega
    · have := ih h; omega
theorem len_sz (ts : Fo) : 4 * ts.len ≤ ts.sz := by
  induction ts with
  | nil => simp [Fo.len, Fo.sz]
  | cons tag text ats kids rest ihk ihr => simp only [Fo.len, Fo.sz]; omega

theorem acells_len (ats : List (ByteArray × ByteArray)) : (acells ats).length = ats.length * 2 := by
  induction ats with
  | nil => rfl
  | cons x r ih => simp only [acells, List.length_cons, ih]; omega
theorem acells_app (a b : List (ByteArray × ByteArray)) : acells (a ++ b) = acells a ++ acells b := by
  induction a with
  | nil => rfl
  | cons x r ih => simp [acells, ih]

theorem FoV.len {ts : Fo} {v : AV} (h : FoV ts v) : lenL v = some ts.len := by
  rcases h with ⟨h, rfl⟩ | ⟨row, tok, rfl, _⟩
  · rw [h]; rfl
  · rfl
theorem AttV.len {ats : List (ByteArray × ByteArray)} {v : AV} (h : AttV ats v) : lenL v = some ats.length := by
  rcases h with ⟨rfl, rfl⟩ | ⟨row, tok, rfl⟩ <;> rfl

/-- The i-th attribute. -/
theorem attr_at {pre suf : List (ByteArray × ByteArray)} {x : ByteArray × ByteArray} {v : AV} (h : AttV (pre ++ x :: suf) v) {i : Int} (hi : i = (pre.length : Nat)) : ia 2 v (.int .i64 i) = some (.ip [.str x.1, .str x.2]) := by
  subst hi
  rcases h with ⟨h, _⟩ | ⟨rest, tok, rfl⟩
  · simp at h
  · have hlt : pre.length < (pre ++ x :: suf).length := by simp
    have hl : (acells (pre ++ x :: suf) ++ rest).length = (pre.length + suf.length + 1) * 2 + rest.length := by
      rw [List.length_append, acells_len]; simp; omega
    have hc : (pre.length + 1) * 2 ≤ (acells (pre ++ x :: suf) ++ rest).length := by rw [hl]; omega
    simp only [ia, idx_nat hlt, Option.bind_some, hc, if_true]
    rw [acells_app, List.append_assoc, ← acells_len pre, List.drop_left]
    rfl

/-- The i-th tree. -/
theorem row_at {tag text : ByteArray} {ats : List (ByteArray × ByteArray)} {kids rest : Fo} {row : List AV} {i : Nat} (h : Row (.cons tag text ats kids rest) (row.drop (i * 4))) :
    ∃ a k, AttV ats a ∧ FoV kids k ∧ Row rest (row.drop ((i + 1) * 4)) ∧ row.length ≥ (i + 1) * 4 ∧ ∀ n tok, i < n → ia 4 (.is row n tok) (.int .i64 (i : Int)) = some (.ip [.str tag, .str text, a, k]) := by
  obtain ⟨a, k, r, h1, h2, h3, h4⟩ := h
  have hl : (row.drop (i * 4)).length = r.length + 4 := by rw [h1]; simp
  rw [List.length_drop] at hl
  have hd : row.drop ((i + 1) * 4) = r := by
    rw [show (i + 1) * 4 = i * 4 + 4 by omega, ← List.drop_drop, h1]
    rfl
  refine ⟨a, k, h2, ?_, by rw [hd]; exact h4, by omega, fun n tok hn => ?_⟩
  · rcases h3 with ⟨h3, h5⟩ | h3
    · exact .inl ⟨h3, h5⟩
    · exact .inr h3
  · have hc : (i + 1) * 4 ≤ row.length := by omega
    simp only [ia, idx_nat hn, Option.bind_some, hc, if_true]
    rw [h1]
    rfl

/-! ### The fields of a tree -/
section
variable (a b c d : AV) (st : Sto)
theorem f0 : fa 0 1 (.ip [a, b, c, d]) = some (.ip [a]) := rfl
theorem f1 : fa 1 1 (.ip [a, b, c, d]) = some (.ip [b]) := rfl
theorem f2 : fa 2 1 (.ip [a, b, c, d]) = some (.ip [c]) := rfl
theorem f3 : fa 3 1 (.ip [a, b, c, d]) = some (.ip [d]) := rfl
theorem g0 : fa 0 1 (.ip [a, b]) = some (.ip [a]) := rfl
theorem g1 : fa 1 1 (.ip [a, b]) = some (.ip [b]) := rfl
theorem l1 : ld false 1 st (.ip [a]) = some a := rfl
theorem l2 : ld true 2 st (.ip [a, b]) = some (.agg [a, b]) := rfl
theorem l4 : ld true 4 st (.ip [a, b, c, d]) = some (.agg [a, b, c, d]) := rfl
theorem nk (cs : List AV) : nilCk (.ip cs) = some (.ip cs) := rfl
end

theorem m_get {st : Sto} {id g fz n : Nat} {cs : List AV} {x : AV} (h : st[id]? = some (.cells g cs fz)) (hx : cs[n]? = some x) : ld false 1 st (.mp id g n) = some x := by
  have hl : n < cs.length := (List.getElem?_eq_some_iff.1 hx).1
  have h1 : n + 1 ≤ cs.length := hl
  have h2 : (cs.drop n).take 1 = [x] := by
    rw [List.drop_eq_getElem_cons hl]
    simp only [List.take_succ_cons, List.take_zero]
    rw [(List.getElem?_eq_some_iff.1 hx).2]
  simp only [ld, ldCells, h, h1, true_and, if_true, Option.bind_some, h2]
  rfl
theorem m_all {st : Sto} {id g fz n : Nat} {cs : List AV} (h : st[id]? = some (.cells g cs fz)) (hn : cs.length = n) : ld true n st (.mp id g 0) = some (.agg cs) := by
  subst hn
  simp only [ld, ldCells, h, Nat.zero_add, Nat.le_refl, true_and, if_true, Option.bind_some, List.drop_zero, List.take_length]
  rfl
theorem m_new {st : Sto} {cs cs' : List AV} (hc : cs'.all AV.isCell = true) (hl : cs'.length = cs.length) {n : Nat} (hn : cs.length = n) : sto n (st ++ [Ob.cells 0 cs 0]) (.mp st.length 0 0) (.agg cs') = some (st ++ [Ob.cells 0 cs' 0]) := by
  have h1 : (st ++ [Ob.cells 0 cs 0])[st.length]? = some (.cells 0 cs 0) := by simp
  have h2 : cs'.length ≤ cs.length := by omega
  have h3 : (AV.cells (.agg cs')).length = n := by show cs'.length = n; omega
  have h4 : ((AV.agg cs').cells) = cs' := rfl
  unfold sto
  rw [if_pos h3, h4]
  simp only [stCells, h1, Nat.zero_add, h2, hc, Nat.le_refl, true_and, and_self, if_true, splice, List.take_zero, List.nil_append]
  rw [List.drop_of_length_le (by omega)]
  simp

/-! ### A node alone -/
theorem isNaN_spec (s : ByteArray) (st : Sto) : CallR ap 59 [.str s] st = some (.ret (.bool false), st) := by
  rw [cmp_isNaN_string.call]
  refine ret_keep ?_ rfl rfl (Keeps.refl _ _)
  rw [cmp_isNaN_string.b_eq]
  simp
theorem compare_spec (a b : ByteArray) (st : Sto) : ∃ n : Int, CallR ap 57 [.str a, .str b] st = some (.ret (.int .i64 n), st) ∧ decide (0 ≤ n) = !sLess a b := by
  have key : ∀ (n : Int), cmp_Compare_string.b a b st = some ⟨.ret (.int .i64 n), none, st⟩ → CallR ap 57 [.str a, .str b] st = some (.ret (.int .i64 n), st) := by
    intro n h
    rw [cmp_Compare_string.call]
    exact ret_keep h rfl rfl (Keeps.refl _ _)
  have h := cmp_Compare_string.b_eq a b st
  simp only [isNaN_spec, Option.bind_some, Out.on, asB, cond_false] at h
  cases hl : sLess a b with
  | true =>
    simp only [hl, cond_true] at h
    exact ⟨-1, key _ h, rfl⟩
  | false =>
    simp only [hl, cond_false, Bool.false_or] at h
    cases he : decide (a = b) with
    | true => simp only [he, Bool.not_true, cond_false] at h; exact ⟨0, key _ h, rfl⟩
    | false => simp only [he, Bool.not_false, cond_true] at h; exact ⟨1, key _ h, rfl⟩

noncomputable def aOk : Option ByteArray → List (ByteArray × ByteArray) → Bool
  | _, [] => true
  | p, x :: r => ((match p with | none => true | some q => sLess q x.1) && (wordB x.1 45 && okT x.2)) && aOk (some x.1) r

noncomputable def alone (tag text : ByteArray) (ats : List (ByteArray × ByteArray)) (kids : Fo) : Bool :=
  bif decide (tag = ⟨#[]⟩) then decide (ats.length = 0) && (decide (kids.len = 0) && okT text) else (aOk none ats && (wordB tag 45 && decide (text = ⟨#[]⟩)))

theorem text_ok (s : ByteArray) (hs : s.size < 9223372036854775800) (st : Sto) : CallR ap 56 [.str s] st = some (.ret (.bool (okT s)), st) := by
  obtain ⟨r, hr⟩ := scan_ex s s.size 0 (by omega) (by omega)
  rw [forest_text.call]
  refine ret_keep ?_ rfl rfl (Keeps.refl _ _)
  rw [forest_text.b_eq]
  unfold okT
  cases r with
  | none =>
    have e : (((ByteArray.size s : Nat) : Int) ≤ 4096) = (s.size ≤ 4096) := propext ⟨fun h => by omega, fun h => by omega⟩
    simp only [valid_spec hs hr, validOut, Option.bind_some, Out.on, ext, List.getElem?_cons_zero, List.getElem?_cons_succ, asI, if_true, decide_true, cond_true, e, hr, Bool.true_and]
  | some a =>
    have e : ¬ Scan s 0 none := fun h => by have := scan_det h hr; cases this
    simp only [valid_spec hs hr, validOut, Option.bind_some, Out.on, ext, List.getElem?_cons_zero, List.getElem?_cons_succ, asI, if_true, show decide ((300 : Int) = 0) = false from rfl, cond_false, e, decide_false, Bool.false_and]

/-- The name before. -/
def prev (pre : List (ByteArray × ByteArray)) : Option ByteArray := (pre.getLast?).map (·.1)
theorem prev_snoc (pre : List (ByteArray × ByteArray)) (x : ByteArray × ByteArray) : prev (pre ++ [x]) = some x.1 := by simp [prev]

open Classical in
theorem formed_loop {tag text : ByteArray} {a k : AV} {ats : List (ByteArray × ByteArray)} (ha : AttV ats a) (hs : asz ats ≤ 1050000) (ht : tag.size ≤ 1050000) (n : Nat) :
    ∀ (suf pre : List (ByteArray × ByteArray)), ats = pre ++ suf → ∀ st : Sto, n ≤ st.length →
      ∃ st', forest_formed.p110100 (.ip [.str tag, .str text, a, k]) a ((ats.length : Nat) : Int) ((pre.length : Nat) : Int) st = some ⟨.ret (.bool (aOk (prev pre) suf && (wordB tag 45 && decide (text = ⟨#[]⟩)))), none, st'⟩ ∧ Keeps n st st' := by
  intro suf
  induction suf with
  | nil =>
    intro pre hp st hn
    rw [List.append_nil] at hp
    subst hp
    refine ⟨st, ?_, Keeps.refl _ _⟩
    rw [forest_formed.p110100_eq]
    simp only [Int.lt_irrefl, decide_false, cond_false, nk, f0, f1, l1, Option.bind_some, tag_spec tag (by omega), Out.on, guardT, gOn, asS, aOk, Bool.true_and]
    cases wordB tag 45 <;> simp
  | cons x r ih =>
    intro pre hp st hn
    subst hp
    have hlen : (pre ++ x :: r).length ≤ 525000 := by have := asz_len (pre ++ x :: r); omega
    have hx := asz_mem (ats := pre ++ x :: r) (x := x) (by simp)
    have hlt : (((pre.length : Nat) : Int) < (((pre ++ x :: r).length : Nat) : Int)) := by simp; omega
    have hw : IntKind.wrap .i64 (((pre.length : Nat) : Int) + 1) = (((pre ++ [x]).length : Nat) : Int) := by
      rw [w64 (pre.length + 1) (by omega) (by simp at hlen ⊢; omega)]
      simp
    obtain ⟨st1, hst1⟩ : ∃ s : Sto, s = st ++ [Ob.cells 0 [.str x.1, .str x.2] 0] := ⟨_, rfl⟩
    have hst : sto 2 (st ++ [Ob.cells 0 [.str ⟨#[]⟩, .str ⟨#[]⟩] 0]) (.mp st.length 0 0) (.agg [.str x.1, .str x.2]) = some st1 := by
      rw [hst1]
      exact m_new (cs := [.str ⟨#[]⟩, .str ⟨#[]⟩]) (cs' := [.str x.1, .str x.2]) rfl rfl rfl
    have hg : st1[st.length]? = some (.cells 0 [.str x.1, .str x.2] 0) := by rw [hst1]; simp
    have h0 : ld false 1 st1 (.mp st.length 0 0) = some (.str x.1) := m_get hg rfl
    have h1 : ld false 1 st1 (.mp st.length 0 1) = some (.str x.2) := m_get hg rfl
    have hk : Keeps n st st1 := by rw [hst1]; exact Keeps.app hn
    have nxt := ih (pre ++ [x]) (by simp) st1 (Nat.le_trans hn hk.len)
    rw [prev_snoc] at nxt
    obtain ⟨st', n1, n2⟩ := nxt
    have mid : ∀ b : Bool, ∃ st', forest_formed.p110100110011 (.ip [.str tag, .str text, a, k]) a (((pre ++ x :: r).length : Nat) : Int) ((pre.length : Nat) : Int) b st1 =
        some ⟨.ret (.bool ((!b && aOk (some x.1) r) && (wordB tag 45 && decide (text = ⟨#[]⟩)))), none, st'⟩ ∧ Keeps n st st' := by
      intro b
      rw [forest_formed.p110100110011_eq, hw]
      cases b with
      | true => exact ⟨st1, by simp, hk⟩
      | false => exact ⟨st', by simpa using n1, hk.trans n2⟩
    have tl : ∃ st', ((ld false 1 st1 (.mp st.length 0 0)).bind fun v38 => (CallR ap 55 [v38] st1).bind fun x39 => x39.1.on (fun v40 => if x39.2 = st1 then ((asB v40).bind fun q42 => bif (!q42) then (forest_formed.p110100110011 (.ip [.str tag, .str text, a, k]) a (((pre ++ x :: r).length : Nat) : Int) ((pre.length : Nat) : Int) true st1) else ((ld false 1 st1 (.mp st.length 0 1)).bind fun v43 => (CallR ap 56 [v43] st1).bind fun x44 => x44.1.on (fun v45 => if x44.2 = st1 then ((asB v45).bind fun q47 => forest_formed.p110100110011 (.ip [.str tag, .str text, a, k]) a (((pre ++ x :: r).length : Nat) : Int) ((pre.length : Nat) : Int) (!q47) st1) else none) (fun e46 => none))) else none) (fun e41 => none)) =
        some ⟨.ret (.bool (((wordB x.1 45 && okT x.2) && aOk (some x.1) r) && (wordB tag 45 && decide (text = ⟨#[]⟩)))), none, st'⟩ ∧ Keeps n st st' := by
      simp only [h0, h1, Option.bind_some, tag_spec x.1 (by omega), text_ok x.2 (by omega), Out.on, asB, if_true]
      cases wordB x.1 45 with
      | false =>
        obtain ⟨s2, m1, m2⟩ := mid true
        refine ⟨s2, ?_, m2⟩
        simp only [Bool.not_false, cond_true, m1, Bool.not_true, Bool.false_and]
      | true =>
        obtain ⟨s2, m1, m2⟩ := mid (!okT x.2)
        refine ⟨s2, ?_, m2⟩
        simp only [Bool.not_true, cond_false, m1, Bool.not_not, Bool.true_and]
    rw [forest_formed.p110100_eq]
    simp only [hlt, decide_true, cond_true, attr_at ha rfl, Option.bind_some, l2, hst]
    rcases List.eq_nil_or_concat pre with rfl | ⟨pre', y, rfl⟩
    · have hz : ¬ ((0 : Int) < (([] : List (ByteArray × ByteArray)).length : Nat)) := by simp
      simp only [hz, decide_false, cond_false]
      obtain ⟨s2, m1, m2⟩ := tl
      refine ⟨s2, m1.trans ?_, m2⟩
      simp only [aOk, prev, List.getLast?_nil, Option.map_none, Bool.true_and]
    · rw [List.concat_eq_append] at *
      have hz : ((0 : Int) < (((pre' ++ [y]).length : Nat) : Int)) := by rw [List.length_append]; simp only [List.length_cons, List.length_nil]; omega
      have hw1 : IntKind.wrap .i64 ((((pre' ++ [y]).length : Nat) : Int) - 1) = ((pre'.length : Nat) : Int) := by
        rw [w64 pre'.length (by simp) (by simp at hlen; omega)]
      have ha' : AttV (pre' ++ y :: (x :: r)) a := by simpa using ha
      obtain ⟨c, c1, c2⟩ := compare_spec y.1 x.1 st1
      simp only [hz, decide_true, cond_true, nk, f2, l1, Option.bind_some, hw1, attr_at ha' rfl, g0, h0, c1, Out.on, if_true, asI, c2, prev_snoc]
      cases hsl : sLess y.1 x.1 with
      | false =>
        obtain ⟨s2, m1, m2⟩ := mid true
        refine ⟨s2, ?_, m2⟩
        simp only [Bool.not_false, cond_true, m1, Bool.not_true, Bool.false_and, aOk, hsl]
      | true =>
        obtain ⟨s2, m1, m2⟩ := tl
        refine ⟨s2, ?_, m2⟩
        simp only [h0] at m1
        simp only [Option.bind_some] at m1
        simp only [Bool.not_true, cond_false, aOk, Bool.true_and, hsl]
        exact m1

theorem formed_spec {tag text : ByteArray} {a k : AV} {ats : List (ByteArray × ByteArray)} {kids : Fo} (ha : AttV ats a) (hk : FoV kids k) (hs : asz ats ≤ 1050000) (ht : tag.size ≤ 1050000) (hx : text.size ≤ 1050000) (st : Sto) :
    CallR ap 54 [.ip [.str tag, .str text, a, k]] st = some (.ret (.bool (alone tag text ats kids)), st) := by
  obtain ⟨st', l1', l2'⟩ := formed_loop (text := text) (k := k) ha hs ht st.length ats [] rfl st (Nat.le_refl _)
  rw [forest_formed.call]
  unfold alone
  by_cases h : tag = ⟨#[]⟩
  · subst h
    refine ret_keep ?_ rfl rfl (Keeps.refl _ _)
    rw [forest_formed.b_eq]
    have e1 : (((ats.length : Nat) : Int) = 0) = (ats.length = 0) := propext ⟨fun h => by omega, fun h => by omega⟩
    have e2 : (((kids.len : Nat) : Int) = 0) = (kids.len = 0) := propext ⟨fun h => by omega, fun h => by omega⟩
    simp only [nk, f0, f1, f2, f3, l1, Option.bind_some, asS, decide_true, cond_true, ha.len, hk.len, e1, e2, text_ok text (by omega), Out.on, asB]
    cases decide (ats.length = 0) <;> cases decide (kids.len = 0) <;> simp
  · refine ret_keep ?_ rfl rfl l2'
    rw [forest_formed.b_eq]
    simp only [nk, f0, f2, l1, Option.bind_some, asS, h, decide_false, cond_false, ha.len]
    exact l1'

end Go.Proofs.YtcgepgahgihojaaDoor
