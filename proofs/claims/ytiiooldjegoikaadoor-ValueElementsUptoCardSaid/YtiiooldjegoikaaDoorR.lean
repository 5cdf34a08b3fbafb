/- What the document's functions answer: texts. -/
import Derived.Test.YtiiooldjegoikaaDoorUM
import Derived.Test.YtiiooldjegoikaaDoorStEv
namespace Go.Proofs.YtiiooldjegoikaaDoor
open Go.St Go.Lib
set_option linter.unusedVariables false
set_option linter.unusedSimpArgs false
def tailB (s : ByteArray) (i : Nat) : Bool := decide (i < s.size) && (decide (128 ≤ bat s i) && decide (bat s i < 192))

theorem tail_spec (s : ByteArray) (i : Nat) (st : Sto) : CallR ap 76 [.str s, .int .i64 (i : Int)] st = some (.ret (.bool (tailB s i)), st) := by
  rw [stencilref3_tail.call]
  refine ret_keep ?_ rfl rfl (Keeps.refl _ _)
  rw [stencilref3_tail.b_eq]
  unfold tailB
  by_cases h : i < s.size
  · have h' : ((i : Int) < ((s.size : Nat) : Int)) := by omega
    simp only [h', h, decide_true, cond_true, idx_nat h, Option.bind_some, byt_bat, Bool.true_and]
    by_cases h1 : 128 ≤ bat s i
    · have h1' : (128 : Int) ≤ (bat s i : Int) := by omega
      have h2 : ((bat s i : Int) < 192) = (bat s i < 192) := propext ⟨fun h => by omega, fun h => by omega⟩
      simp only [h1, h1', h2, decide_true, cond_true, Bool.true_and]
    · have h1' : ¬ (128 : Int) ≤ (bat s i : Int) := by omega
      simp only [h1, h1', decide_false, cond_false, Bool.false_and]
  · have h' : ¬ ((i : Int) < ((s.size : Nat) : Int)) := by omega
    simp only [h', h, decide_false, cond_false, Bool.false_and]

def len3 (s : ByteArray) (i : Nat) : Nat := lengthN (s.size - i) (bat s i) (bat s (i + 1)) (bat s (i + 2)) (bat s (i + 3))
theorem len3_eq (s : ByteArray) (i : Nat) : len3 s i = if Bad s i then 0 else (dec s i).2 := by
  unfold len3
  rw [lengthN_eq _ _ _ _ _ (bat_lt _ _) (bat_lt _ _) (bat_lt _ _) (bat_lt _ _), ← dec_eq]
  by_cases h : (dec s i).2 = 1 ∧ 128 ≤ bat s i
  · rw [if_pos h, if_pos (show Bad s i from h)]
  · rw [if_neg h, if_neg (show ¬ Bad s i from h)]

set_option maxRecDepth 100000 in
set_option maxHeartbeats 8000000 in
theorem length_spec (s : ByteArray) (i : Nat) (hi : i < s.size) (hs : s.size < 9223372036854775800) (st : Sto) : CallR ap 71 [.str s, .int .i64 (i : Int)] st = some (.ret (.int .i64 (len3 s i : Nat)), st) := by
  rw [stencilref3_Length.call]
  refine ret_keep ?_ rfl rfl (Keeps.refl _ _)
  have key : ∀ (k : Nat) (x : Int), x = k → len3 s i = k → (some ⟨.ret (.int .i64 x), none, st⟩ : Option Res) = some ⟨.ret (.int .i64 (len3 s i : Nat)), none, st⟩ := by rintro k x rfl h; rw [h]
  have w1 : IntKind.wrap .i64 ((i : Int) + 1) = ((i + 1 : Nat) : Int) := w64 _ (by omega) (by omega)
  have w2 : IntKind.wrap .i64 ((i : Int) + 2) = ((i + 2 : Nat) : Int) := w64 _ (by omega) (by omega)
  have w3 : IntKind.wrap .i64 ((i : Int) + 3) = ((i + 3 : Nat) : Int) := w64 _ (by omega) (by omega)
  have hb0 := bat_lt s i
  rw [stencilref3_Length.b_eq]
  simp only [idx_nat hi, Option.bind_some, byt_bat, w1, tail_spec, Out.on, pickK, asB, cond_true, stencilref3_Length.p11101_eq, stencilref3_Length.p111101_eq, stencilref3_Length.p111101001_eq, stencilref3_Length.p1111101_eq, stencilref3_Length.p1111101001_eq, w2, w3, guardT, gOn, cond_false]
  have cls : bat s i < 128 ∨ (128 ≤ bat s i ∧ bat s i < 194) ∨ (194 ≤ bat s i ∧ bat s i < 224) ∨ bat s i = 224 ∨ (225 ≤ bat s i ∧ bat s i < 237) ∨ bat s i = 237 ∨ (238 ≤ bat s i ∧ bat s i < 240) ∨ bat s i = 240 ∨ (241 ≤ bat s i ∧ bat s i < 244) ∨ bat s i = 244 ∨ 245 ≤ bat s i := by omega
  have cl1 : bat s (i + 1) < 144 ∨ (144 ≤ bat s (i + 1) ∧ bat s (i + 1) < 160) ∨ 160 ≤ bat s (i + 1) := by omega
  cases t1 : tailB s (i + 1) with
  | false =>
    simp only [cond_false, Bool.cond_decide]
    have t1' : ¬ (i + 1 < s.size ∧ 128 ≤ bat s (i + 1) ∧ bat s (i + 1) < 192) := by simpa [tailB] using t1
    clear t1 cl1
    rcases cls with c | c | c | c | c | c | c | c | c | c | c
    all_goals simp (disch := omega) only [if_pos, if_neg]
    all_goals first
      | exact key 0 _ rfl (by simp (disch := omega) only [len3, lengthN, if_pos, if_neg])
      | exact key 1 _ rfl (by simp (disch := omega) only [len3, lengthN, if_pos, if_neg])
  | true =>
    have t1' : (i + 1 < s.size ∧ 128 ≤ bat s (i + 1) ∧ bat s (i + 1) < 192) := by simpa [tailB, and_assoc] using t1
    simp only [cond_true, cond_false, idx_nat t1'.1, Option.bind_some, byt_bat]
    clear t1
    cases t2 : tailB s (i + 2) with
    | false =>
      simp only [cond_false, cond_true, Bool.cond_decide]
      have t2' : ¬ (i + 2 < s.size ∧ 128 ≤ bat s (i + 2) ∧ bat s (i + 2) < 192) := by simpa [tailB] using t2
      clear t2 cl1
      rcases cls with c | c | c | c | c | c | c | c | c | c | c
      all_goals simp (disch := omega) only [if_pos, if_neg]
      all_goals first
        | exact key 0 _ rfl (by simp (disch := omega) only [len3, lengthN, if_pos, if_neg])
        | exact key 1 _ rfl (by simp (disch := omega) only [len3, lengthN, if_pos, if_neg])
        | exact key 2 _ rfl (by simp (disch := omega) only [len3, lengthN, if_pos, if_neg])
    | true =>
      have t2' : (i + 2 < s.size ∧ 128 ≤ bat s (i + 2) ∧ bat s (i + 2) < 192) := by simpa [tailB, and_assoc] using t2
      clear t2
      cases t3 : tailB s (i + 3) with
      | false =>
        simp only [cond_false, cond_true, Bool.cond_decide]
        have t3' : ¬ (i + 3 < s.size ∧ 128 ≤ bat s (i + 3) ∧ bat s (i + 3) < 192) := by simpa [tailB] using t3
        clear t3
        rcases cls with c | c | c | c | c | c | c | c | c | c | c <;> rcases cl1 with d | d | d
        all_goals simp (disch := omega) only [if_pos, if_neg]
        all_goals first
          | exact key 0 _ rfl (by simp (disch := omega) only [len3, lengthN, if_pos, if_neg])
          | exact key 1 _ rfl (by simp (disch := omega) only [len3, lengthN, if_pos, if_neg])
          | exact key 2 _ rfl (by simp (disch := omega) only [len3, lengthN, if_pos, if_neg])
          | exact key 3 _ rfl (by simp (disch := omega) only [len3, lengthN, if_pos, if_neg])
      | true =>
        simp only [cond_false, cond_true, Bool.cond_decide]
        have t3' : (i + 3 < s.size ∧ 128 ≤ bat s (i + 3) ∧ bat s (i + 3) < 192) := by simpa [tailB, and_assoc] using t3
        clear t3
        rcases cls with c | c | c | c | c | c | c | c | c | c | c <;> rcases cl1 with d | d | d
        all_goals simp (disch := omega) only [if_pos, if_neg]
        all_goals first
          | exact key 0 _ rfl (by simp (disch := omega) only [len3, lengthN, if_pos, if_neg])
          | exact key 1 _ rfl (by simp (disch := omega) only [len3, lengthN, if_pos, if_neg])
          | exact key 2 _ rfl (by simp (disch := omega) only [len3, lengthN, if_pos, if_neg])
          | exact key 3 _ rfl (by simp (disch := omega) only [len3, lengthN, if_pos, if_neg])
          | exact key 4 _ rfl (by simp (disch := omega) only [len3, lengthN, if_pos, if_neg])


theorem ref_loop {s : ByteArray} (hs : s.size < 9223372036854775800) {i : Nat} {r : Option Nat} (h : Scan s i r) (st : Sto) : stencilref3_Valid.p11000 s (i : Int) st = some ⟨.ret (validOut r), none, st⟩ := by
  induction h with
  | done i h =>
    rw [stencilref3_Valid.p11000_eq]
    have : ¬ ((i : Int) < (s.size : Int)) := by omega
    simp only [this, decide_false, cond_false]
    rfl
  | bad i h hb =>
    rw [stencilref3_Valid.p11000_eq]
    have h' : ((i : Int) < (s.size : Int)) := by omega
    simp only [h', decide_true, cond_true, length_spec s i h hs, len3_eq, hb, if_true, Option.bind_some, Out.on, asI, show decide (((0 : Nat) : Int) = 0) = true from rfl]
    rfl
  | step i r h hb k ih =>
    rw [stencilref3_Valid.p11000_eq]
    have h' : ((i : Int) < (s.size : Int)) := by omega
    have hp := dec_pos s i
    have hl := dec_le h
    have hz : ¬ (((dec s i).2 : Nat) : Int) = 0 := by omega
    simp only [h', decide_true, cond_true, length_spec s i h hs, len3_eq, hb, if_false, Option.bind_some, Out.on, asI, if_true, hz, decide_false, cond_false]
    rw [w64 (i + (dec s i).2) (by omega) (by omega)]
    exact ih

theorem refValid_spec {s : ByteArray} (hs : s.size < 9223372036854775800) {r : Option Nat} (h : Scan s 0 r) (st : Sto) : CallR ap 67 [.str s] st = some (.ret (validOut r), st) := by
  rw [stencilref3_Valid.call]
  refine ret_keep ?_ (validOut_strip _ _) (validOut_old _ _) (Keeps.refl _ _)
  rw [stencilref3_Valid.b_eq]
  exact ref_loop hs h st

set_option maxRecDepth 100000 in
open Classical in
/-- A text that may be. -/
noncomputable def okT (s : ByteArray) : Bool := decide (Scan s 0 none) && decide (s.size ≤ 4096)

theorem scan_det {s : ByteArray} {i : Nat} {r r' : Option Nat} (h : Scan s i r) (h' : Scan s i r') : r = r' := by
  induction h with
  | done i h => cases h' <;> first | rfl | omega
  | bad i h hb => cases h' <;> first | rfl | omega | contradiction
  | step i r h hb k ih =>
    cases h' with
    | done _ h2 => omega
    | bad _ _ hb2 => contradiction
    | step _ _ _ _ k2 => exact ih k2

open Classical in
theorem good_spec (s : ByteArray) (hs : s.size < 9223372036854775800) (st : Sto) : CallR ap 63 [.str s] st = some (.ret (.bool (okT s)), st) := by
  obtain ⟨r, hr⟩ := scan_ex s s.size 0 (by omega) (by omega)
  rw [stencilref3_Good.call]
  refine ret_keep ?_ rfl rfl (Keeps.refl _ _)
  rw [stencilref3_Good.b_eq]
  unfold okT
  by_cases h4 : s.size ≤ 4096
  · have h4' : ¬ ((4096 : Int) < ((s.size : Nat) : Int)) := by omega
    cases r with
    | none => simp only [h4', h4, refValid_spec hs hr, validOut, Option.bind_some, Out.on, ext, List.getElem?_cons_zero, List.getElem?_cons_succ, asI, if_true, decide_true, decide_false, cond_false, hr, Bool.true_and]
    | some a =>
      have e : ¬ Scan s 0 none := fun h => by have := scan_det h hr; cases this
      simp only [h4', h4, refValid_spec hs hr, validOut, Option.bind_some, Out.on, ext, List.getElem?_cons_zero, List.getElem?_cons_succ, asI, if_true, show decide ((300 : Int) = 0) = false from rfl, decide_true, decide_false, cond_false, e, Bool.false_and]
  · have h4' : ((4096 : Int) < ((s.size : Nat) : Int)) := by omega
    simp only [h4', h4, decide_true, decide_false, cond_true, Bool.and_false]

end Go.Proofs.YtiiooldjegoikaaDoor
