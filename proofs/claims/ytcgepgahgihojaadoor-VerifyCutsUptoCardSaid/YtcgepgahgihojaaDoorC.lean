/- Code's instructions: what they want, their form. -/
import Derived.Test.YtcgepgahgihojaaDoorTW
namespace Go.Proofs.YtcgepgahgihojaaDoor
open Go.St Go.Lib
set_option linter.unusedVariables false
set_option linter.unusedSimpArgs false

def jumpsB (op : Int) : Bool := decide (30 ≤ op) && decide (op ≤ 33)
theorem jumps_spec (op : Int) (st : Sto) : CallR ap 44 [.int .i64 op] st = some (.ret (.bool (jumpsB op)), st) := by
  rw [code_jumps.call]
  refine ret_keep ?_ rfl rfl (Keeps.refl _ _)
  rw [code_jumps.b_eq]
  unfold jumpsB
  by_cases h : 30 ≤ op
  · simp [h]
  · simp [h]

def opN (op : Int) : Int := if op = 8 then 8 else if 12 ≤ op ∧ op ≤ 28 then op else 0
theorem operation_spec (op : Int) (st : Sto) : CallR ap 53 [.int .i64 op] st = some (.ret (.int .i64 (opN op)), st) := by
  rw [code_operation.call]
  refine ret_keep ?_ rfl rfl (Keeps.refl _ _)
  rw [code_operation.b_eq]
  unfold opN
  by_cases h8 : op = 8
  · simp [h8]
  · by_cases h : 12 ≤ op
    · by_cases h2 : op ≤ 28
      · have w1 : IntKind.wrap .i64 (12 + op) = 12 + op := wrap64 (by omega) (by omega)
        have w2 : IntKind.wrap .i64 (12 + op - 12) = op := by rw [wrap64 (by omega) (by omega)]; omega
        simp [h8, h, h2, code_operation.p100111_eq, w1, w2]
      · simp [h8, h, h2, code_operation.p100111_eq]
    · simp [h8, h, code_operation.p100111_eq]

def wantN (op : Int) : Int × Int := if 1 ≤ op ∧ op ≤ 6 then (0, 1) else if opN op ≠ 0 then (2, -1) else if op = 30 ∨ op = 31 ∨ op = 32 then (1, -1) else if op = 33 then (0, 0) else (1, 0)
theorem wants_spec (op : Int) (st : Sto) : CallR ap 42 [.int .i64 op] st = some (.ret (.tup [.int .i64 (wantN op).1, .int .i64 (wantN op).2]), st) := by
  rw [code_wants.call]
  refine ret_keep ?_ rfl rfl (Keeps.refl _ _)
  rw [code_wants.b_eq]
  unfold wantN
  by_cases h1 : 1 ≤ op
  · by_cases h6 : op ≤ 6
    · simp [h1, h6, code_wants.p1001_eq]
    · simp only [h1, h6, decide_true, decide_false, cond_true, cond_false, code_wants.p1001_eq, operation_spec, Option.bind_some, Out.on, asI, if_true, and_false, if_false]
      by_cases h0 : opN op = 0
      · by_cases a : op = 30
        · simp [show opN 30 = 0 from rfl, a, code_wants.p10011111_eq]
        · by_cases b : op = 31
          · simp [show opN 31 = 0 from rfl, b, code_wants.p10011111_eq]
          · by_cases c : op = 32
            · simp [show opN 32 = 0 from rfl, c, code_wants.p10011111_eq]
            · by_cases d : op = 33
              · simp [show opN 33 = 0 from rfl, d, code_wants.p10011111_eq]
              · simp [h0, a, b, c, d, code_wants.p10011111_eq]
      · simp [h0]
  · simp only [h1, decide_false, cond_false, code_wants.p1001_eq, operation_spec, Option.bind_some, Out.on, asI, if_true, false_and, if_false]
    have h0 : opN op = 0 := by
      unfold opN
      rw [if_neg (by omega), if_neg (by omega)]
    have a : ¬ op = 30 := by omega
    have b : ¬ op = 31 := by omega
    have c : ¬ op = 32 := by omega
    have d : ¬ op = 33 := by omega
    simp [h0, a, b, c, d, code_wants.p10011111_eq]

def formB (op a : Int) : Bool := if op < 1 ∨ 33 < op then false else if op = 9 then decide (1 ≤ a) && decide (a ≤ 8) else if (4 ≤ op ∧ op ≤ 7) ∨ jumpsB op = true then true else decide (a = 0)
theorem codeForm_spec (op a : Int) (st : Sto) : CallR ap 43 [.agg [.int .i64 op, .int .i64 a]] st = some (.ret (.bool (formB op a)), st) := by
  have hc : AV.cells (.agg [.int .i64 op, .int .i64 a]) = [.int .i64 op, .int .i64 a] := rfl
  obtain ⟨S, hS⟩ : ∃ S, S = st ++ [Ob.cells 0 [.int .i64 op, .int .i64 a] 0] := ⟨_, rfl⟩
  have hg : S[st.length]? = some (.cells 0 [.int .i64 op, .int .i64 a] 0) := by rw [hS]; simp
  have g0 : ld false 1 S (.mp st.length 0 0) = some (.int .i64 op) := m_get hg rfl
  have g1 : ld false 1 S (.mp st.length 0 1) = some (.int .i64 a) := m_get hg rfl
  rw [code_form.call]
  refine ret_keep (st' := S) ?_ rfl rfl (by rw [hS]; exact Keeps.app (Nat.le_refl _))
  rw [code_form.b_eq, hc, if_pos (show [AV.int .i64 op, .int .i64 a].all AV.isCell = true from rfl), ← hS]
  unfold formB
  simp only [g0, Option.bind_some, asI, if_true]
  by_cases h1 : op < 1
  · simp [h1, code_form.p1001_eq]
  · by_cases h2 : 33 < op
    · simp [h1, h2, code_form.p1001_eq]
    · simp only [h1, h2, decide_false, cond_false, code_form.p1001_eq, g0, g1, Option.bind_some, asI, if_true, or_self, if_false]
      by_cases h9 : op = 9
      · by_cases ha : 1 ≤ a <;> simp [h9, ha]
      · simp only [h9, decide_false, cond_false, if_false]
        by_cases h4 : 4 ≤ op
        · by_cases h7 : op ≤ 7
          · simp [h4, h7, code_form.p100111101_eq, code_form.p10011111_eq, asB]
          · simp only [h4, h7, decide_true, decide_false, cond_true, code_form.p100111101_eq, cond_false, g0, Option.bind_some, jumps_spec, Out.on, code_form.p10011111_eq, asB, and_false, false_or]
            cases jumpsB op <;> simp [g1, asI]
        · simp only [h4, decide_false, cond_false, code_form.p100111101_eq, g0, Option.bind_some, jumps_spec, Out.on, code_form.p10011111_eq, asB, false_and, false_or]
          cases jumpsB op <;> simp [g1, asI]
theorem gc_same {v : AV} {st st' : Sto} (hl : st'.length = st.length) (hs : v.strip st.length = v) : gc st (.ret v, st') = (.ret v, st') := by
  unfold gc
  split
  · simp only [Out.map, hs]
    rw [← hl, List.take_length]
  · rfl

def hcellsI (hs : List Int) : List AV := hs.map (.int .i64)
/-- The heights behind 'lead'. -/
def leadH (hs : List Int) (to : Nat) (x : Int) : List Int := if hs.getD to 0 < 0 then hs.set to x else hs
theorem leadH_len (hs : List Int) (to : Nat) (x : Int) : (leadH hs to x).length = hs.length := by
  unfold leadH
  split <;> simp

theorem lead_spec {st : Sto} {c hid : Nat} {code : AV} {texts depth : Int} {hs : List Int} {to : Nat} (x : Int) (hc : st[c]? = some (.cells 0 [code, .int .i64 texts, .int .i64 depth, .ms hid 0 0 hs.length 1] 0)) (hh : st[hid]? = some (.cells 0 (hcellsI hs) 0)) (hne : c ≠ hid) (hto : to < hs.length) :
    CallR ap 45 [.mp c 0 0, .int .i64 ((to : Nat) : Int), .int .i64 x] st = some (.ret (.bool (decide ((leadH hs to x).getD to 0 = x))), st.set hid (.cells 0 (hcellsI (leadH hs to x)) 0)) := by
  have hn : nilCk (.mp c 0 0) = some (.mp c 0 0) := rfl
  have f3 : fa 3 1 (.mp c 0 0) = some (.mp c 0 (0 + 3)) := rfl
  have hia : ia 1 (.ms hid 0 0 hs.length 1) (.int .i64 ((to : Nat) : Int)) = some (.mp hid 0 to) := by
    simp only [ia, if_true, idx_nat hto, Option.bind_some, Nat.zero_add, Nat.mul_one]
  have hidl := (List.getElem?_eq_some_iff.1 hh).1
  have g3 : ∀ S : Sto, S[c]? = st[c]? → ld false 1 S (.mp c 0 (0 + 3)) = some (.ms hid 0 0 hs.length 1) := fun S h => m_get (h.trans hc) rfl
  have gd : ∀ (l : List Int), to < l.length → (hcellsI l)[to]? = some (.int .i64 (l.getD to 0)) := fun l h => by
    simp [hcellsI, List.getElem?_eq_getElem h, List.getD_eq_getElem?_getD]
  have r0 : ld false 1 st (.mp hid 0 to) = some (.int .i64 (hs.getD to 0)) := m_get hh (gd hs hto)
  -- the second look
  have two : ∀ (S : Sto) (l : List Int), l.length = hs.length → S[c]? = st[c]? → S[hid]? = some (.cells 0 (hcellsI l) 0) → code_checker_lead.p11 (.mp c 0 0) ((to : Nat) : Int) x S = some ⟨.ret (.bool (decide (l.getD to 0 = x))), none, S⟩ := fun S l hl h1 h2 => by
    rw [code_checker_lead.p11_eq]
    simp only [hn, f3, Option.bind_some, g3 S h1, hia, m_get (n := to) h2 (gd l (by omega)), asI, if_true]
  have hb : code_checker_lead.b (.mp c 0 0) ((to : Nat) : Int) x st = some ⟨.ret (.bool (decide ((leadH hs to x).getD to 0 = x))), none, st.set hid (.cells 0 (hcellsI (leadH hs to x)) 0)⟩ := by
    rw [code_checker_lead.b_eq]
    simp only [hn, f3, Option.bind_some, g3 st rfl, hia, r0, asI, if_true]
    unfold leadH
    by_cases h0 : hs.getD to 0 < 0
    · have hst : sto 1 st (.mp hid 0 to) (.int .i64 x) = some (st.set hid (.cells 0 (hcellsI (hs.set to x)) 0)) := by
        rw [sto_at hh (by simpa [hcellsI] using hto) rfl rfl]
        simp [hcellsI, List.map_set]
      simp only [h0, decide_true, cond_true, hst, Option.bind_some, if_true]
      exact two _ (hs.set to x) (by simp) (List.getElem?_set_ne (Ne.symm hne)) (List.getElem?_set_self hidl)
    · simp only [h0, decide_false, cond_false, if_false]
      rw [set_same hh]
      exact two st hs rfl rfl hh
  rw [code_checker_lead.call, hb]
  simp only [Option.bind_some]
  rw [gc_same (by simp) rfl]
end Go.Proofs.YtcgepgahgihojaaDoor
