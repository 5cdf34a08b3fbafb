/- Forests copied. -/
import Derived.Test.YtjcpcglhjeoifaaDoorTK
namespace Go.Proofs.YtjcpcglhjeoifaaDoor
open Go.St Go.Lib
set_option linter.unusedVariables false
set_option linter.unusedSimpArgs false

def copyA (ats : List (ByteArray × ByteArray)) : AV := if ats.length = 0 then .is [] 0 .full else .is (acells ats) ats.length .no
def copyRow : Fo → List AV
  | .nil => []
  | .cons tag text ats kids rest => .str tag :: .str text :: copyA ats :: (if kids.len = 0 then .nils else .is (copyRow kids) kids.len .no) :: copyRow rest

theorem copyA_att (ats : List (ByteArray × ByteArray)) : AttV ats (copyA ats) := by
  unfold copyA
  split
  · rename_i h
    obtain rfl := List.eq_nil_of_length_eq_zero h
    exact .inr ⟨[], .full, rfl⟩
  · exact .inr ⟨[], .no, by simp⟩
theorem copyRow_row (ts : Fo) : ∀ r, Row ts (copyRow ts ++ r) := by
  induction ts with
  | nil => intro r; trivial
  | cons tag text ats kids rest ihk ihr =>
    intro r
    refine ⟨_, _, _, rfl, copyA_att _, ?_, ihr r⟩
    by_cases h : kids.len = 0
    · exact .inl ⟨h, if_pos h⟩
    · refine .inr ⟨copyRow kids, .no, if_neg h, ?_⟩
      have := ihk []
      rwa [List.append_nil] at this
theorem copyRow_len (ts : Fo) : (copyRow ts).length = ts.len * 4 := by
  induction ts with
  | nil => rfl
  | cons tag text ats kids rest ihk ihr => simp only [copyRow, List.length_cons, ihr, Fo.len]; omega
theorem strip_copyA (n : Nat) (ats : List (ByteArray × ByteArray)) : (copyA ats).strip n = copyA ats := by
  unfold copyA
  split
  · rfl
  · simp only [AV.strip, strips_acells, Tok.strip]
theorem old_copyA (n : Nat) (ats : List (ByteArray × ByteArray)) : (copyA ats).old n = true := by
  unfold copyA
  split
  · rfl
  · simp only [AV.old, olds_acells, Tok.old, Bool.and_self]
theorem strips_copyRow (n : Nat) (ts : Fo) : strips n (copyRow ts) = copyRow ts := by
  induction ts with
  | nil => rfl
  | cons tag text ats kids rest ihk ihr =>
    simp only [copyRow, strips, strip_copyA, AV.strip, ihr]
    split
    · rfl
    · simp only [AV.strip, ihk, Tok.strip]
theorem olds_copyRow (n : Nat) (ts : Fo) : olds n (copyRow ts) = true := by
  induction ts with
  | nil => rfl
  | cons tag text ats kids rest ihk ihr =>
    simp only [copyRow, olds, old_copyA, AV.old, ihr]
    split
    · rfl
    · simp only [AV.old, ihk, Tok.old, Bool.and_self]

/-- What a copy is when it is handed back. -/
def CopyV (n : Nat) (st st' : Sto) (ts : Fo) (v : AV) : Prop := (ts.len = 0 ∧ v = .nils ∧ st' = st) ∨ (0 < ts.len ∧ v = .is (copyRow ts) ts.len (.tip n 0 4) ∧ st' = st ++ [.tip 0])
theorem CopyV.fo {n : Nat} {st st' : Sto} {ts : Fo} {v : AV} (h : CopyV n st st' ts v) : FoV ts v := by
  rcases h with ⟨h, rfl, _⟩ | ⟨h, rfl, _⟩
  · exact .inl ⟨h, rfl⟩
  · refine .inr ⟨_, _, rfl, ?_⟩
    have := copyRow_row ts []
    rwa [List.append_nil] at this
theorem CopyV.keeps {n : Nat} {st st' : Sto} {ts : Fo} {v : AV} (h : CopyV n st st' ts v) : ∃ l, st' = st ++ l := by
  rcases h with ⟨_, _, rfl⟩ | ⟨_, _, rfl⟩
  · exact ⟨[], by simp⟩
  · exact ⟨_, rfl⟩

def CopyOk (ts : Fo) : Prop := ∀ (row : List AV) (n i : Nat) (tok : Tok) (st : Sto) (nn : Nat) (x : AV) (pre : List AV), Row ts (row.drop (i * 4)) → n = i + ts.len → ts.sz ≤ 1050000 → n ≤ 1050000 → nn ≤ st.length → BufT 4 nn st x pre i →
  ∃ x' st', stencillaw0_CopyTrees.p110100 (.is row n tok) x ((i : Nat) : Int) st = some ⟨.ret x', none, st'⟩ ∧ BufT 4 nn st' x' (pre ++ copyRow ts) n ∧ Keeps nn st st'

theorem copy_of {ts : Fo} (H : CopyOk ts) {v : AV} (hv : FoV ts v) (hs : ts.sz ≤ 1050000) (st : Sto) : ∃ x st', CallR ap 22 [v] st = some (.ret x, st') ∧ CopyV st.length st st' ts x := by
  rw [stencillaw0_CopyTrees.call, stencillaw0_CopyTrees.b_eq]
  have nilc : ts.len = 0 → ∀ t0, lenL t0 = some 0 → ∃ x st', ((stencillaw0_CopyTrees.p110100 t0 .nils 0 st).bind fun r => some (gcT st (r.out, r.st))) = some (.ret x, st') ∧ CopyV st.length st st' ts x := by
    intro h0 t0 hl
    refine ⟨.nils, st, ?_, .inl ⟨h0, rfl, rfl⟩⟩
    rw [stencillaw0_CopyTrees.p110100_eq]
    simp only [hl, Option.bind_some]
    show some (gcT st (.ret .nils, st)) = _
    unfold gcT
    rw [gc_keep rfl rfl (Keeps.refl _ _)]
  rcases hv with ⟨h0, rfl⟩ | ⟨row, tok, rfl, hr⟩
  · exact nilc h0 _ rfl
  · by_cases h0 : ts.len = 0
    · exact nilc h0 _ (by rw [h0]; rfl)
    · have hl := len_sz ts
      obtain ⟨x', st', h1, h2, h3⟩ := H row ts.len 0 tok st st.length .nils [] (by simpa using hr) (by omega) hs (by omega) (Nat.le_refl _) (.inl ⟨rfl, rfl, rfl⟩)
      simp only [Int.natCast_zero] at h1
      rw [h1]
      simp only [Option.bind_some]
      rcases h2 with ⟨_, _, h2⟩ | ⟨i, g, hi, rfl, hst, hlen⟩
      · omega
      · rw [List.nil_append]
        rw [gcT_tip (strips_copyRow _ _) (olds_copyRow _ _) hi hst h3]
        exact ⟨_, _, rfl, .inr ⟨by omega, rfl, rfl⟩⟩

theorem get_mid' {st l : Sto} {o z : Ob} : (((st ++ [o]) ++ [z]) ++ l)[st.length]? = some o := by
  rw [List.getElem?_append_left (by simp)]
  exact get_mid
theorem set_mid' {st l : Sto} {o o' z : Ob} : (((st ++ [o]) ++ [z]) ++ l).set st.length o' = ((st ++ [o']) ++ [z]) ++ l := by
  rw [List.set_append_left _ _ (by simp), set_mid]
theorem get_last' {st l : Sto} {o z : Ob} : (((st ++ [o]) ++ [z]) ++ l)[(st ++ [o]).length]? = some z := by
  rw [List.getElem?_append_left (by simp)]
  exact get_last

theorem copyTree_of {tag text : ByteArray} {ats : List (ByteArray × ByteArray)} {kids : Fo} (H : CopyOk kids) {a k : AV} (ha : AttV ats a) (hk : FoV kids k) (hs : asz ats ≤ 1050000) (hs2 : kids.sz ≤ 1050000) (st : Sto) :
    CallR ap 36 [.agg [.str tag, .str text, a, k]] st = some (.ret (.agg [.str tag, .str text, copyA ats, if kids.len = 0 then .nils else .is (copyRow kids) kids.len .no]), st) := by
  obtain ⟨o, ho⟩ : ∃ o : Ob, o = Ob.cells 0 [.str tag, .str text, a, k] 0 := ⟨_, rfl⟩
  obtain ⟨z, hz⟩ : ∃ z : Ob, z = Ob.cells 0 [.str ⟨#[]⟩, .str ⟨#[]⟩, .nils, .nils] 0 := ⟨_, rfl⟩
  -- the attributes
  obtain ⟨x1, l1', h1, h1s, h1c, h1cell⟩ : ∃ x l, CallR ap 48 [a] ((st ++ [o]) ++ [z]) = some (.ret x, ((st ++ [o]) ++ [z]) ++ l) ∧ (x.strip st.length = copyA ats) ∧ x.cells = [x] ∧ x.isCell = true := by
    rcases copyAttrs_spec ha hs ((st ++ [o]) ++ [z]) with ⟨e1, e2⟩ | ⟨e1, e2⟩
    · refine ⟨_, [], by simpa using e2, ?_, rfl, rfl⟩
      unfold copyA
      rw [if_pos e1]
      rfl
    · refine ⟨_, _, e2, ?_, rfl, rfl⟩
      unfold copyA
      rw [if_neg (by omega)]
      have : ¬ ((st ++ [o]) ++ [z]).length < st.length := by simp only [List.length_append, List.length_cons, List.length_nil]; omega
      simp only [AV.strip, strips_acells, Tok.strip, this, if_false]
  -- the kids
  obtain ⟨x2, st2, h2, hc2⟩ := copy_of H hk hs2 (((st ++ [Ob.cells 0 [.str tag, .str text, x1, k] 0]) ++ [z]) ++ l1')
  obtain ⟨l2', hl2⟩ := hc2.keeps
  have h2s : x2.strip st.length = (if kids.len = 0 then .nils else .is (copyRow kids) kids.len .no) ∧ x2.cells = [x2] ∧ x2.isCell = true := by
    rcases hc2 with ⟨e1, e2, _⟩ | ⟨e1, e2, _⟩
    · subst e2
      rw [if_pos e1]
      exact ⟨rfl, rfl, rfl⟩
    · subst e2
      rw [if_neg (by omega)]
      refine ⟨?_, rfl, rfl⟩
      have : ¬ (((st ++ [Ob.cells 0 [AV.str tag, .str text, x1, k] 0]) ++ [z]) ++ l1').length < st.length := by simp only [List.length_append, List.length_cons, List.length_nil]; omega
      simp only [AV.strip, strips_copyRow, Tok.strip, this, if_false]
  obtain ⟨h2s, h2c, h2cell⟩ := h2s
  have hkc : k.isCell = true := by rcases hk with ⟨_, rfl⟩ | ⟨_, _, rfl, _⟩ <;> rfl
  subst hl2
  have s1 : sto 1 (((st ++ [o]) ++ [z]) ++ l1') (.mp st.length 0 2) x1 = some (((st ++ [Ob.cells 0 [.str tag, .str text, x1, k] 0]) ++ [z]) ++ l1') := by
    rw [ho, sto_at get_mid' (by simp) h1cell h1c, set_mid']
    rfl
  have s2 : sto 1 ((((st ++ [Ob.cells 0 [.str tag, .str text, x1, k] 0]) ++ [z]) ++ l1') ++ l2') (.mp st.length 0 3) x2 = some (((st ++ [Ob.cells 0 [.str tag, .str text, x1, x2] 0]) ++ [z]) ++ (l1' ++ l2')) := by
    rw [List.append_assoc, sto_at get_mid' (by simp) h2cell h2c, set_mid']
    rfl
  have hall : ([AV.str tag, .str text, x1, x2]).all AV.isCell = true := by
    rw [List.all_cons, List.all_cons, List.all_cons, List.all_cons, h1cell, h2cell]
    rfl
  have s3 := sto_all (st := ((st ++ [Ob.cells 0 [.str tag, .str text, x1, x2] 0]) ++ [z]) ++ (l1' ++ l2')) (cs := [.str ⟨#[]⟩, .str ⟨#[]⟩, .nils, .nils]) (cs' := [.str tag, .str text, x1, x2]) (n := 4) (by rw [hz]; exact get_last') hall rfl rfl
  have e1 : (st ++ [o]).length = (st ++ [Ob.cells 0 [AV.str tag, .str text, x1, x2] 0]).length := by simp
  have hlast : (((st ++ [Ob.cells 0 [.str tag, .str text, x1, x2] 0]) ++ [z]) ++ (l1' ++ l2')).length > (st ++ [Ob.cells 0 [AV.str tag, .str text, x1, x2] 0]).length := by simp
  rw [stencillaw0_CopyTree.call, stencillaw0_CopyTree.b_eq, agg_cells, if_pos (cell2 ha hk), ← ho, ← hz, e1]
  have r2 : ld false 1 ((st ++ [o]) ++ [z]) (.mp st.length 0 2) = some a := by rw [ho]; exact m_get (cs := [.str tag, .str text, a, k]) (n := 2) get_mid rfl
  have r3 : ld false 1 (((st ++ [Ob.cells 0 [.str tag, .str text, x1, k] 0]) ++ [z]) ++ l1') (.mp st.length 0 3) = some k := m_get (cs := [.str tag, .str text, x1, k]) (n := 3) get_mid' rfl
  have r4 : ld true 4 (((st ++ [Ob.cells 0 [.str tag, .str text, x1, x2] 0]) ++ [z]) ++ (l1' ++ l2')) (.mp st.length 0 0) = some (.agg [.str tag, .str text, x1, x2]) := m_all (n := 4) get_mid' rfl
  simp only [r2, Option.bind_some, h1, Out.on, s1, r3, h2, s2, r4, s3]
  rw [m_all (n := 4) (cs := [.str tag, .str text, x1, x2]) (List.getElem?_set_self hlast) rfl]
  simp only [Option.bind_some]
  have hst : (AV.agg [.str tag, .str text, x1, x2]).strip st.length = .agg [.str tag, .str text, copyA ats, if kids.len = 0 then .nils else .is (copyRow kids) kids.len .no] := by
    simp only [AV.strip, strips, h1s, h2s]
  rw [gc_strip (by
    rw [hst]
    simp only [AV.old, olds, old_copyA, Bool.true_and, Bool.and_true]
    split
    · rfl
    · simp only [AV.old, olds_copyRow, Tok.old, Bool.and_self]) (by
    rw [List.append_assoc, List.append_assoc]
    exact (Keeps.app (Nat.le_refl _)).trans (Keeps.set (by simp))), hst]

theorem copy_all (ts : Fo) : CopyOk ts := by
  induction ts with
  | nil =>
    intro row n i tok st nn x pre hr hn hs hb hnn hx
    simp only [Fo.len, Nat.add_zero] at hn
    subst hn
    rw [stencillaw0_CopyTrees.p110100_eq]
    refine ⟨x, st, ?_, by rw [copyRow, List.append_nil]; exact hx, Keeps.refl _ _⟩
    simp only [lenL, Option.bind_some, Int.lt_irrefl, decide_false, cond_false]
  | cons tag text ats kids rest ihk ihr =>
    intro row n i tok st nn x pre hr hn hs hb hnn hx
    simp only [Fo.len] at hn
    simp only [Fo.sz] at hs
    obtain ⟨a, k, ha, hk, hr', hlen, hia⟩ := row_at hr
    have hia := hia n tok (by omega)
    have wi : IntKind.wrap .i64 ((i : Int) + 1) = ((i + 1 : Nat) : Int) := w64 _ (by omega) (by omega)
    have hlt : (((i : Nat) : Int) < ((n : Nat) : Int)) := by omega
    obtain ⟨kc, hkc⟩ : ∃ c : AV, c = (if kids.len = 0 then AV.nils else .is (copyRow kids) kids.len .no) := ⟨_, rfl⟩
    have hcell : ([AV.str tag, .str text, copyA ats, kc]).all AV.isCell = true := by
      have h1 : (copyA ats).isCell = true := by unfold copyA; split <;> rfl
      have h2 : kc.isCell = true := by rw [hkc]; split <;> rfl
      rw [List.all_cons, List.all_cons, List.all_cons, List.all_cons, h1, h2]
      rfl
    obtain ⟨j, g, s1, h1, h2, h3, h4, h5, h6, h7⟩ := bufT_add (bytes := 80) (str := false) hx hnn (tail_tree (cs := [.str tag, .str text, copyA ats, kc]) rfl st) (by omega) rfl (by simp [room]; omega)
    obtain ⟨x', st', m1, m2, m3⟩ := ihr row n (i + 1) tok s1 nn _ _ hr' (by omega) (by omega) hb (Nat.le_trans hnn h5) (.inr ⟨j, g, h2, rfl, h3, h7⟩)
    refine ⟨x', st', ?_, ?_, h4.trans m3⟩
    · rw [stencillaw0_CopyTrees.p110100_eq]
      simp only [lenL, Option.bind_some, hlt, decide_true, cond_true, hia, l4, copyTree_of ihk ha hk (show asz ats ≤ 1050000 by omega) (show kids.sz ≤ 1050000 by omega), Out.on, ← hkc, lit_tree hcell rfl, h1, wi]
      exact m1
    · have : pre ++ copyRow (.cons tag text ats kids rest) = (pre ++ [AV.str tag, .str text, copyA ats, kc]) ++ copyRow rest := by
        simp [copyRow, hkc]
      rw [this]
      exact m2

theorem copyTrees_spec {ts : Fo} {v : AV} (hv : FoV ts v) (hs : ts.sz ≤ 1050000) (st : Sto) : ∃ x st', CallR ap 22 [v] st = some (.ret x, st') ∧ CopyV st.length st st' ts x := copy_of (copy_all ts) hv hs st
end Go.Proofs.YtjcpcglhjeoifaaDoor
