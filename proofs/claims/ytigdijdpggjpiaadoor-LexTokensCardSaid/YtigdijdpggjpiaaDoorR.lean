/- What the document's functions answer: texts, names, entities. -/
import Derived.Test.YtigdijdpggjpiaaDoorUM
import Derived.Test.YtigdijdpggjpiaaDoorH
import Derived.Test.YtigdijdpggjpiaaDoorStEv
namespace Go.Proofs.YtigdijdpggjpiaaDoor
open Go.St Go.Lib
set_option linter.unusedVariables false
set_option linter.unusedSimpArgs false

def tailB (s : ByteArray) (i : Nat) : Bool := decide (i < s.size) && (decide (128 ≤ bat s i) && decide (bat s i < 192))

theorem tail_spec (s : ByteArray) (i : Nat) (st : Sto) : CallR ap 51 [.str s, .int .i64 (i : Int)] st = some (.ret (.bool (tailB s i)), st) := by
  rw [stencilref3_tail.call]
  refine ret_keep ?_ rfl rfl (Keeps.refl _ _)
  rw [stencilref3_tail.b_eq]
  unfold tailB
  by_cases h : i < s.size
  · have h' : ((i : Int) < ((s.size : Nat) : Int)) := by omega
    simp only [h', h, decide_true, cond_true, idx_nat h, Option.bind_some, byt_bat, Bool.true_and]
    by_cases h1 : 128 ≤ bat s i
    · have h1' : (128 : Int) ≤ (bat s i : Int) := by omega
      have h2 : ((bat s i : Int) < 192) = (bat s i < 192) := propext ⟨fun h => by omega, fun h => by omega⟩
      simp only [h1, h1', h2, decide_true, cond_true, Bool.true_and]
    · have h1' : ¬ (128 : Int) ≤ (bat s i : Int) := by omega
      simp only [h1, h1', decide_false, cond_false, Bool.false_and]
  · have h' : ¬ ((i : Int) < ((s.size : Nat) : Int)) := by omega
    simp only [h', h, decide_false, cond_false, Bool.false_and]

def len3 (s : ByteArray) (i : Nat) : Nat := lengthN (s.size - i) (bat s i) (bat s (i + 1)) (bat s (i + 2)) (bat s (i + 3))
theorem len3_eq (s : ByteArray) (i : Nat) : len3 s i = if Bad s i then 0 else (dec s i).2 := by
  unfold len3
  rw [lengthN_eq _ _ _ _ _ (bat_lt _ _) (bat_lt _ _) (bat_lt _ _) (bat_lt _ _), ← dec_eq]
  by_cases h : (dec s i).2 = 1 ∧ 128 ≤ bat s i
  · rw [if_pos h, if_pos (show Bad s i from h)]
  · rw [if_neg h, if_neg (show ¬ Bad s i from h)]

set_option maxRecDepth 100000 in
set_option maxHeartbeats 8000000 in
theorem length_spec (s : ByteArray) (i : Nat) (hi : i < s.size) (hs : s.size < 9223372036854775800) (st : Sto) : CallR ap 31 [.str s, .int .i64 (i : Int)] st = some (.ret (.int .i64 (len3 s i : Nat)), st) := by
  rw [stencilref3_Length.call]
  refine ret_keep ?_ rfl rfl (Keeps.refl _ _)
  have key : ∀ (k : Nat) (x : Int), x = k → len3 s i = k → (some ⟨.ret (.int .i64 x), none, st⟩ : Option Res) = some ⟨.ret (.int .i64 (len3 s i : Nat)), none, st⟩ := by rintro k x rfl h; rw [h]
  have w1 : IntKind.wrap .i64 ((i : Int) + 1) = ((i + 1 : Nat) : Int) := w64 _ (by omega) (by omega)
  have w2 : IntKind.wrap .i64 ((i : Int) + 2) = ((i + 2 : Nat) : Int) := w64 _ (by omega) (by omega)
  have w3 : IntKind.wrap .i64 ((i : Int) + 3) = ((i + 3 : Nat) : Int) := w64 _ (by omega) (by omega)
  have hb0 := bat_lt s i
  rw [stencilref3_Length.b_eq]
  simp only [idx_nat hi, Option.bind_some, byt_bat, w1, tail_spec, Out.on, pickK, asB, cond_true, stencilref3_Length.p11101_eq, stencilref3_Length.p111101_eq, stencilref3_Length.p111101001_eq, stencilref3_Length.p1111101_eq, stencilref3_Length.p1111101001_eq, w2, w3, guardT, gOn, cond_false]
  have cls : bat s i < 128 ∨ (128 ≤ bat s i ∧ bat s i < 194) ∨ (194 ≤ bat s i ∧ bat s i < 224) ∨ bat s i = 224 ∨ (225 ≤ bat s i ∧ bat s i < 237) ∨ bat s i = 237 ∨ (238 ≤ bat s i ∧ bat s i < 240) ∨ bat s i = 240 ∨ (241 ≤ bat s i ∧ bat s i < 244) ∨ bat s i = 244 ∨ 245 ≤ bat s i := by omega
  have cl1 : bat s (i + 1) < 144 ∨ (144 ≤ bat s (i + 1) ∧ bat s (i + 1) < 160) ∨ 160 ≤ bat s (i + 1) := by omega
  cases t1 : tailB s (i + 1) with
  | false =>
    simp only [cond_false, Bool.cond_decide]
    have t1' : ¬ (i + 1 < s.size ∧ 128 ≤ bat s (i + 1) ∧ bat s (i + 1) < 192) := by simpa [tailB] using t1
    clear t1 cl1
    rcases cls with c | c | c | c | c | c | c | c | c | c | c
    all_goals simp (disch := omega) only [if_pos, if_neg]
    all_goals first
      | exact key 0 _ rfl (by simp (disch := omega) only [len3, lengthN, if_pos, if_neg])
      | exact key 1 _ rfl (by simp (disch := omega) only [len3, lengthN, if_pos, if_neg])
  | true =>
    have t1' : (i + 1 < s.size ∧ 128 ≤ bat s (i + 1) ∧ bat s (i + 1) < 192) := by simpa [tailB, and_assoc] using t1
    simp only [cond_true, cond_false, idx_nat t1'.1, Option.bind_some, byt_bat]
    clear t1
    cases t2 : tailB s (i + 2) with
    | false =>
      simp only [cond_false, cond_true, Bool.cond_decide]
      have t2' : ¬ (i + 2 < s.size ∧ 128 ≤ bat s (i + 2) ∧ bat s (i + 2) < 192) := by simpa [tailB] using t2
      clear t2 cl1
      rcases cls with c | c | c | c | c | c | c | c | c | c | c
      all_goals simp (disch := omega) only [if_pos, if_neg]
      all_goals first
        | exact key 0 _ rfl (by simp (disch := omega) only [len3, lengthN, if_pos, if_neg])
        | exact key 1 _ rfl (by simp (disch := omega) only [len3, lengthN, if_pos, if_neg])
        | exact key 2 _ rfl (by simp (disch := omega) only [len3, lengthN, if_pos, if_neg])
    | true =>
      have t2' : (i + 2 < s.size ∧ 128 ≤ bat s (i + 2) ∧ bat s (i + 2) < 192) := by simpa [tailB, and_assoc] using t2
      clear t2
      cases t3 : tailB s (i + 3) with
      | false =>
        simp only [cond_false, cond_true, Bool.cond_decide]
        have t3' : ¬ (i + 3 < s.size ∧ 128 ≤ bat s (i + 3) ∧ bat s (i + 3) < 192) := by simpa [tailB] using t3
        clear t3
        rcases cls with c | c | c | c | c | c | c | c | c | c | c <;> rcases cl1 with d | d | d
        all_goals simp (disch := omega) only [if_pos, if_neg]
        all_goals first
          | exact key 0 _ rfl (by simp (disch := omega) only [len3, lengthN, if_pos, if_neg])
          | exact key 1 _ rfl (by simp (disch := omega) only [len3, lengthN, if_pos, if_neg])
          | exact key 2 _ rfl (by simp (disch := omega) only [len3, lengthN, if_pos, if_neg])
          | exact key 3 _ rfl (by simp (disch := omega) only [len3, lengthN, if_pos, if_neg])
      | true =>
        simp only [cond_false, cond_true, Bool.cond_decide]
        have t3' : (i + 3 < s.size ∧ 128 ≤ bat s (i + 3) ∧ bat s (i + 3) < 192) := by simpa [tailB, and_assoc] using t3
        clear t3
        rcases cls with c | c | c | c | c | c | c | c | c | c | c <;> rcases cl1 with d | d | d
        all_goals simp (disch := omega) only [if_pos, if_neg]
        all_goals first
          | exact key 0 _ rfl (by simp (disch := omega) only [len3, lengthN, if_pos, if_neg])
          | exact key 1 _ rfl (by simp (disch := omega) only [len3, lengthN, if_pos, if_neg])
          | exact key 2 _ rfl (by simp (disch := omega) only [len3, lengthN, if_pos, if_neg])
          | exact key 3 _ rfl (by simp (disch := omega) only [len3, lengthN, if_pos, if_neg])
          | exact key 4 _ rfl (by simp (disch := omega) only [len3, lengthN, if_pos, if_neg])


theorem ref_loop {s : ByteArray} (hs : s.size < 9223372036854775800) {i : Nat} {r : Option Nat} (h : Scan s i r) (st : Sto) : stencilref3_Valid.p11000 s (i : Int) st = some ⟨.ret (validOut r), none, st⟩ := by
  induction h with
  | done i h =>
    rw [stencilref3_Valid.p11000_eq]
    have : ¬ ((i : Int) < (s.size : Int)) := by omega
    simp only [this, decide_false, cond_false]
    rfl
  | bad i h hb =>
    rw [stencilref3_Valid.p11000_eq]
    have h' : ((i : Int) < (s.size : Int)) := by omega
    simp only [h', decide_true, cond_true, length_spec s i h hs, len3_eq, hb, if_true, Option.bind_some, Out.on, asI, show decide (((0 : Nat) : Int) = 0) = true from rfl]
    rfl
  | step i r h hb k ih =>
    rw [stencilref3_Valid.p11000_eq]
    have h' : ((i : Int) < (s.size : Int)) := by omega
    have hp := dec_pos s i
    have hl := dec_le h
    have hz : ¬ (((dec s i).2 : Nat) : Int) = 0 := by omega
    simp only [h', decide_true, cond_true, length_spec s i h hs, len3_eq, hb, if_false, Option.bind_some, Out.on, asI, if_true, hz, decide_false, cond_false]
    rw [w64 (i + (dec s i).2) (by omega) (by omega)]
    exact ih

theorem refValid_spec {s : ByteArray} (hs : s.size < 9223372036854775800) {r : Option Nat} (h : Scan s 0 r) (st : Sto) : CallR ap 18 [.str s] st = some (.ret (validOut r), st) := by
  rw [stencilref3_Valid.call]
  refine ret_keep ?_ (validOut_strip _ _) (validOut_old _ _) (Keeps.refl _ _)
  rw [stencilref3_Valid.b_eq]
  exact ref_loop hs h st

set_option maxRecDepth 100000 in
theorem okAt_word (s : ByteArray) (q : Nat) (st : Sto) (i : Nat) (hi : i ≠ 0) :
    (bif decide ((bat s i : Int) < 97) then (bif decide ((bat s i : Int) < 48) then stencilref3_word.p11010010011 s (q : Int) (i : Int) (!decide ((bat s i : Int) = (q : Int))) st else (bif decide ((57 : Int) < (bat s i : Int)) then stencilref3_word.p11010010011 s (q : Int) (i : Int) (!decide ((bat s i : Int) = (q : Int))) st else stencilref3_word.p11010010011 s (q : Int) (i : Int) false st))
      else (bif decide ((122 : Int) < (bat s i : Int)) then (bif decide ((bat s i : Int) < 48) then stencilref3_word.p11010010011 s (q : Int) (i : Int) (!decide ((bat s i : Int) = (q : Int))) st else (bif decide ((57 : Int) < (bat s i : Int)) then stencilref3_word.p11010010011 s (q : Int) (i : Int) (!decide ((bat s i : Int) = (q : Int))) st else stencilref3_word.p11010010011 s (q : Int) (i : Int) false st)) else stencilref3_word.p11010010011 s (q : Int) (i : Int) false st))
      = stencilref3_word.p11010010011 s (q : Int) (i : Int) (!okAt s q i) st := by
  have e1 : ((bat s i : Int) < 97) = (bat s i < 97) := propext ⟨fun h => by omega, fun h => by omega⟩
  have e2 : ((122 : Int) < (bat s i : Int)) = (122 < bat s i) := propext ⟨fun h => by omega, fun h => by omega⟩
  have e4 : ((bat s i : Int) = (q : Int)) = (bat s i = q) := propext ⟨fun h => by omega, fun h => by omega⟩
  have e5 : ((bat s i : Int) < 48) = (bat s i < 48) := propext ⟨fun h => by omega, fun h => by omega⟩
  have e6 : ((57 : Int) < (bat s i : Int)) = (57 < bat s i) := propext ⟨fun h => by omega, fun h => by omega⟩
  have key : ∀ x : Bool, x = (!okAt s q i) → stencilref3_word.p11010010011 s (q : Int) (i : Int) x st = stencilref3_word.p11010010011 s (q : Int) (i : Int) (!okAt s q i) st := by rintro x rfl; rfl
  simp only [e1, e2, e4, e5, e6, Bool.cond_decide]
  repeat' split
  all_goals refine key _ ?_
  all_goals unfold okAt
  all_goals rw [Bool.eq_iff_iff]
  all_goals simp only [true_iff, false_iff, Bool.not_eq_true', Bool.not_eq_false', Bool.or_eq_false_iff, Bool.and_eq_false_iff, Bool.or_eq_true, Bool.and_eq_true, decide_eq_true_eq, decide_eq_false_iff_not, Bool.false_eq_true, ne_eq, Bool.not_true, Bool.not_false]
  all_goals omega

theorem word_loop (s : ByteArray) (hs : s.size < 9223372036854775800) (q : Nat) (st : Sto) : ∀ m i : Nat, i ≠ 0 → i + m = s.size → stencilref3_word.p110100 s (q : Int) (i : Int) st = some ⟨.ret (.bool (allOk s q m i)), none, st⟩ := by
  intro m
  induction m with
  | zero =>
    intro i hi h
    obtain rfl : i = s.size := by omega
    rw [stencilref3_word.p110100_eq]
    simp only [Int.lt_irrefl, decide_false, cond_false, allOk]
  | succ m ih =>
    intro i hi0 h
    have hi : i < s.size := by omega
    have hlt : (i : Int) < ((s.size : Nat) : Int) := by omega
    have wi : IntKind.wrap .i64 ((i : Int) + 1) = ((i + 1 : Nat) : Int) := w64 _ (by omega) (by omega)
    rw [stencilref3_word.p110100_eq]
    simp only [hlt, decide_true, cond_true, idx_nat hi, Option.bind_some, byt_bat]
    rw [okAt_word s q st i hi0, stencilref3_word.p11010010011_eq, wi, allOk, ih (i + 1) (by omega) (by omega)]
    cases okAt s q i <;> simp

theorem word_spec (s : ByteArray) (hs : s.size < 9223372036854775800) (q : Nat) (st : Sto) : CallR ap 60 [.str s, .int .u8 (q : Int)] st = some (.ret (.bool (wordB s q)), st) := by
  rw [stencilref3_word.call]
  refine ret_keep ?_ rfl rfl (Keeps.refl _ _)
  rw [stencilref3_word.b_eq]
  unfold wordB
  by_cases h1 : s.size < 1
  · have h1' : ((s.size : Nat) : Int) < 1 := by omega
    have h2 : ¬ 1 ≤ s.size := by omega
    simp only [h1', decide_true, cond_true, stencilref3_word.p101_eq, h2, decide_false, Bool.false_and]
  · have h1' : ¬ ((s.size : Nat) : Int) < 1 := by omega
    have h1'' : 1 ≤ s.size := by omega
    by_cases h2 : 32 < s.size
    · have h2' : (32 : Int) < ((s.size : Nat) : Int) := by omega
      have h3 : ¬ s.size ≤ 32 := by omega
      simp only [h1', h2', decide_true, decide_false, cond_true, cond_false, stencilref3_word.p101_eq, h3, Bool.and_false, Bool.false_and]
    · have h2' : ¬ (32 : Int) < ((s.size : Nat) : Int) := by omega
      have h3 : s.size ≤ 32 := by omega
      obtain ⟨m, hm⟩ : ∃ m, s.size = m + 1 := ⟨s.size - 1, by omega⟩
      have hl := word_loop s hs q st m 1 (by omega) (by omega)
      have ha : allOk s q s.size 0 = ((decide (97 ≤ bat s 0) && decide (bat s 0 ≤ 122)) && allOk s q m 1) := by
        rw [hm]
        simp [allOk, okAt]
      rw [ha]
      simp only [h1', h2', decide_false, cond_false, idx0 (show 0 < s.size by omega), Option.bind_some, byt_bat, h1'', h3, decide_true, Bool.true_and]
      by_cases h4 : bat s 0 < 97
      · have h4' : (bat s 0 : Int) < 97 := by omega
        have h5 : ¬ 97 ≤ bat s 0 := by omega
        simp only [h4', decide_true, cond_true, stencilref3_word.p101_eq, h5, decide_false, Bool.false_and]
      · have h4' : ¬ (bat s 0 : Int) < 97 := by omega
        have h5 : 97 ≤ bat s 0 := by omega
        by_cases h6 : 122 < bat s 0
        · have h6' : (122 : Int) < (bat s 0 : Int) := by omega
          have h7 : ¬ bat s 0 ≤ 122 := by omega
          simp only [h4', h6', decide_true, decide_false, cond_true, cond_false, stencilref3_word.p101_eq, h7, Bool.and_false, Bool.false_and]
        · have h6' : ¬ (122 : Int) < (bat s 0 : Int) := by omega
          have h7 : bat s 0 ≤ 122 := by omega
          simp only [h4', h6', decide_false, cond_false, stencilref3_word.p101_eq, h5, h7, decide_true, Bool.true_and]
          exact hl

theorem refTag_spec (s : ByteArray) (hs : s.size < 9223372036854775800) (st : Sto) : CallR ap 52 [.str s] st = some (.ret (.bool (wordB s 45)), st) := by
  rw [stencilref3_Tag.call]
  refine ret_keep ?_ rfl rfl (Keeps.refl _ _)
  rw [stencilref3_Tag.b_eq, show ((45 : Int)) = ((45 : Nat) : Int) from rfl, word_spec s hs 45 st]
  rfl

end Go.Proofs.YtigdijdpggjpiaaDoor
