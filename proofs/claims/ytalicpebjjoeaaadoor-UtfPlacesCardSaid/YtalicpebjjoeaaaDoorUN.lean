/- Names, and the laws of layer 3. -/
import Derived.Test.YtalicpebjjoeaaaDoorUM
namespace Go.Proofs.YtalicpebjjoeaaaDoor
open Go.St Go.Lib
set_option linter.unusedVariables false
set_option linter.unusedSimpArgs false

set_option maxRecDepth 100000 in
theorem okAt_mid (s : ByteArray) (q : Nat) (st : Sto) (n : Int) (i : Nat) :
    (bif decide ((97 : Int) ≤ (bat s i : Int)) then utf_spelt.p101001100111 s (q : Int) (i : Int) (bat s i : Int) (decide ((bat s i : Int) ≤ 122)) n (i : Int) st else utf_spelt.p101001100111 s (q : Int) (i : Int) (bat s i : Int) false n (i : Int) st)
      = utf_spelt.p1010011001111 s (q : Int) n (i : Int) (!okAt s q i) st := by
  have e1 : ((97 : Int) ≤ (bat s i : Int)) = (97 ≤ bat s i) := propext ⟨fun h => by omega, fun h => by omega⟩
  have e2 : ((bat s i : Int) ≤ 122) = (bat s i ≤ 122) := propext ⟨fun h => by omega, fun h => by omega⟩
  have e3 : ((i : Int) = 0) = (i = 0) := propext ⟨fun h => by omega, fun h => by omega⟩
  have e4 : ((bat s i : Int) = (q : Int)) = (bat s i = q) := propext ⟨fun h => by omega, fun h => by omega⟩
  have e5 : ((bat s i : Int) < 48) = (bat s i < 48) := propext ⟨fun h => by omega, fun h => by omega⟩
  have e6 : ((57 : Int) < (bat s i : Int)) = (57 < bat s i) := propext ⟨fun h => by omega, fun h => by omega⟩
  have key : ∀ x : Bool, x = (!okAt s q i) → utf_spelt.p1010011001111 s (q : Int) n (i : Int) x st = utf_spelt.p1010011001111 s (q : Int) n (i : Int) (!okAt s q i) st := by rintro x rfl; rfl
  simp only [e1, e2, e3, e4, e5, e6, utf_spelt.p101001100111_eq, Bool.cond_not, Bool.cond_decide, cond_false]
  repeat' split
  all_goals refine key _ ?_
  all_goals unfold okAt
  all_goals rw [Bool.eq_iff_iff]
  all_goals simp only [true_iff, false_iff, Bool.not_eq_true', Bool.not_eq_false', Bool.or_eq_false_iff, Bool.and_eq_false_iff, Bool.or_eq_true, Bool.and_eq_true, decide_eq_true_eq, decide_eq_false_iff_not, Bool.false_eq_true, ne_eq, Bool.not_true, Bool.not_false]
  all_goals omega

theorem spelt_loop (s : ByteArray) (hs : s.size < 9223372036854775800) (q : Nat) (st : Sto) : ∀ m i : Nat, i + m = s.size →
    utf_spelt.p10100 s (q : Int) (s.size : Nat) (i : Int) st = some ⟨.ret (.bool (allOk s q m i && (decide (1 ≤ s.size) && decide (s.size ≤ 32)))), none, st⟩ := by
  intro m
  induction m with
  | zero =>
    intro i h
    obtain rfl : i = s.size := by omega
    rw [utf_spelt.p10100_eq]
    have e1 : ((0 : Int) < (s.size : Int)) = (1 ≤ s.size) := propext ⟨fun h => by omega, fun h => by omega⟩
    have e2 : ((s.size : Int) ≤ 32) = (s.size ≤ 32) := propext ⟨fun h => by omega, fun h => by omega⟩
    simp only [Int.lt_irrefl, decide_false, cond_false, e1, e2, allOk, Bool.true_and]
    by_cases h1 : 1 ≤ s.size
    · simp [h1]
    · simp [h1]
  | succ m ih =>
    intro i h
    have hi : i < s.size := by omega
    have hlt : (i : Int) < ((s.size : Nat) : Int) := by omega
    have wi : IntKind.wrap .i64 ((i : Int) + 1) = ((i + 1 : Nat) : Int) := w64 _ (by omega) (by omega)
    rw [utf_spelt.p10100_eq]
    simp only [hlt, decide_true, cond_true, idx_nat hi, Option.bind_some, byt_bat]
    rw [okAt_mid, utf_spelt.p1010011001111_eq, wi, allOk, ih (i + 1) (by omega)]
    cases okAt s q i <;> simp

theorem spelt_spec (s : ByteArray) (hs : s.size < 9223372036854775800) (q : Nat) (st : Sto) : CallR ap 20 [.str s, .int .u8 (q : Int)] st = some (.ret (.bool (wordB s q)), st) := by
  rw [utf_spelt.call]
  refine ret_keep ?_ rfl rfl (Keeps.refl _ _)
  rw [utf_spelt.b_eq]
  have := spelt_loop s hs q st s.size 0 (by omega)
  rw [show ((0 : Int)) = ((0 : Nat) : Int) from rfl, this]
  unfold wordB
  rw [Bool.and_comm]

set_option maxRecDepth 100000 in
theorem okAt_word (s : ByteArray) (q : Nat) (st : Sto) (i : Nat) (hi : i ≠ 0) :
    (bif decide ((bat s i : Int) < 97) then (bif decide ((bat s i : Int) < 48) then stencilref3_word.p11010010011 s (q : Int) (i : Int) (!decide ((bat s i : Int) = (q : Int))) st else (bif decide ((57 : Int) < (bat s i : Int)) then stencilref3_word.p11010010011 s (q : Int) (i : Int) (!decide ((bat s i : Int) = (q : Int))) st else stencilref3_word.p11010010011 s (q : Int) (i : Int) false st))
      else (bif decide ((122 : Int) < (bat s i : Int)) then (bif decide ((bat s i : Int) < 48) then stencilref3_word.p11010010011 s (q : Int) (i : Int) (!decide ((bat s i : Int) = (q : Int))) st else (bif decide ((57 : Int) < (bat s i : Int)) then stencilref3_word.p11010010011 s (q : Int) (i : Int) (!decide ((bat s i : Int) = (q : Int))) st else stencilref3_word.p11010010011 s (q : Int) (i : Int) false st)) else stencilref3_word.p11010010011 s (q : Int) (i : Int) false st))
      = stencilref3_word.p11010010011 s (q : Int) (i : Int) (!okAt s q i) st := by
  have e1 : ((bat s i : Int) < 97) = (bat s i < 97) := propext ⟨fun h => by omega, fun h => by omega⟩
  have e2 : ((122 : Int) < (bat s i : Int)) = (122 < bat s i) := propext ⟨fun h => by omega, fun h => by omega⟩
  have e4 : ((bat s i : Int) = (q : Int)) = (bat s i = q) := propext ⟨fun h => by omega, fun h => by omega⟩
  have e5 : ((bat s i : Int) < 48) = (bat s i < 48) := propext ⟨fun h => by omega, fun h => by omega⟩
  have e6 : ((57 : Int) < (bat s i : Int)) = (57 < bat s i) := propext ⟨fun h => by omega, fun h => by omega⟩
  have key : ∀ x : Bool, x = (!okAt s q i) → stencilref3_word.p11010010011 s (q : Int) (i : Int) x st = stencilref3_word.p11010010011 s (q : Int) (i : Int) (!okAt s q i) st := by rintro x rfl; rfl
  simp only [e1, e2, e4, e5, e6, Bool.cond_decide]
  repeat' split
  all_goals refine key _ ?_
  all_goals unfold okAt
  all_goals rw [Bool.eq_iff_iff]
  all_goals simp only [true_iff, false_iff, Bool.not_eq_true', Bool.not_eq_false', Bool.or_eq_false_iff, Bool.and_eq_false_iff, Bool.or_eq_true, Bool.and_eq_true, decide_eq_true_eq, decide_eq_false_iff_not, Bool.false_eq_true, ne_eq, Bool.not_true, Bool.not_false]
  all_goals omega

theorem word_loop (s : ByteArray) (hs : s.size < 9223372036854775800) (q : Nat) (st : Sto) : ∀ m i : Nat, i ≠ 0 → i + m = s.size → stencilref3_word.p110100 s (q : Int) (i : Int) st = some ⟨.ret (.bool (allOk s q m i)), none, st⟩ := by
  intro m
  induction m with
  | zero =>
    intro i hi h
    obtain rfl : i = s.size := by omega
    rw [stencilref3_word.p110100_eq]
    simp only [Int.lt_irrefl, decide_false, cond_false, allOk]
  | succ m ih =>
    intro i hi0 h
    have hi : i < s.size := by omega
    have hlt : (i : Int) < ((s.size : Nat) : Int) := by omega
    have wi : IntKind.wrap .i64 ((i : Int) + 1) = ((i + 1 : Nat) : Int) := w64 _ (by omega) (by omega)
    rw [stencilref3_word.p110100_eq]
    simp only [hlt, decide_true, cond_true, idx_nat hi, Option.bind_some, byt_bat]
    rw [okAt_word s q st i hi0, stencilref3_word.p11010010011_eq, wi, allOk, ih (i + 1) (by omega) (by omega)]
    cases okAt s q i <;> simp

theorem word_spec (s : ByteArray) (hs : s.size < 9223372036854775800) (q : Nat) (st : Sto) : CallR ap 21 [.str s, .int .u8 (q : Int)] st = some (.ret (.bool (wordB s q)), st) := by
  rw [stencilref3_word.call]
  refine ret_keep ?_ rfl rfl (Keeps.refl _ _)
  rw [stencilref3_word.b_eq]
  unfold wordB
  by_cases h1 : s.size < 1
  · have h1' : ((s.size : Nat) : Int) < 1 := by omega
    have h2 : ¬ 1 ≤ s.size := by omega
    simp only [h1', decide_true, cond_true, stencilref3_word.p101_eq, h2, decide_false, Bool.false_and]
  · have h1' : ¬ ((s.size : Nat) : Int) < 1 := by omega
    have h1'' : 1 ≤ s.size := by omega
    by_cases h2 : 32 < s.size
    · have h2' : (32 : Int) < ((s.size : Nat) : Int) := by omega
      have h3 : ¬ s.size ≤ 32 := by omega
      simp only [h1', h2', decide_true, decide_false, cond_true, cond_false, stencilref3_word.p101_eq, h3, Bool.and_false, Bool.false_and]
    · have h2' : ¬ (32 : Int) < ((s.size : Nat) : Int) := by omega
      have h3 : s.size ≤ 32 := by omega
      obtain ⟨m, hm⟩ : ∃ m, s.size = m + 1 := ⟨s.size - 1, by omega⟩
      have hl := word_loop s hs q st m 1 (by omega) (by omega)
      have ha : allOk s q s.size 0 = ((decide (97 ≤ bat s 0) && decide (bat s 0 ≤ 122)) && allOk s q m 1) := by
        rw [hm]
        simp [allOk, okAt]
      rw [ha]
      simp only [h1', h2', decide_false, cond_false, idx0 (show 0 < s.size by omega), Option.bind_some, byt_bat, h1'', h3, decide_true, Bool.true_and]
      by_cases h4 : bat s 0 < 97
      · have h4' : (bat s 0 : Int) < 97 := by omega
        have h5 : ¬ 97 ≤ bat s 0 := by omega
        simp only [h4', decide_true, cond_true, stencilref3_word.p101_eq, h5, decide_false, Bool.false_and]
      · have h4' : ¬ (bat s 0 : Int) < 97 := by omega
        have h5 : 97 ≤ bat s 0 := by omega
        by_cases h6 : 122 < bat s 0
        · have h6' : (122 : Int) < (bat s 0 : Int) := by omega
          have h7 : ¬ bat s 0 ≤ 122 := by omega
          simp only [h4', h6', decide_true, decide_false, cond_true, cond_false, stencilref3_word.p101_eq, h7, Bool.and_false, Bool.false_and]
        · have h6' : ¬ (122 : Int) < (bat s 0 : Int) := by omega
          have h7 : bat s 0 ≤ 122 := by omega
          simp only [h4', h6', decide_false, cond_false, stencilref3_word.p101_eq, h5, h7, decide_true, Bool.true_and]
          exact hl

theorem name_spec (s : ByteArray) (hs : s.size < 9223372036854775800) (st : Sto) : CallR ap 13 [.str s] st = some (.ret (.bool (wordB s 95)), st) := by
  rw [utf_Name.call]
  refine ret_keep ?_ rfl rfl (Keeps.refl _ _)
  rw [utf_Name.b_eq, show ((95 : Int)) = ((95 : Nat) : Int) from rfl, spelt_spec s hs 95 st]
  rfl
theorem refName_spec (s : ByteArray) (hs : s.size < 9223372036854775800) (st : Sto) : CallR ap 14 [.str s] st = some (.ret (.bool (wordB s 95)), st) := by
  rw [stencilref3_Name.call]
  refine ret_keep ?_ rfl rfl (Keeps.refl _ _)
  rw [stencilref3_Name.b_eq, show ((95 : Int)) = ((95 : Nat) : Int) from rfl, word_spec s hs 95 st]
  rfl
theorem tag_spec (s : ByteArray) (hs : s.size < 9223372036854775800) (st : Sto) : CallR ap 15 [.str s] st = some (.ret (.bool (wordB s 45)), st) := by
  rw [utf_Tag.call]
  refine ret_keep ?_ rfl rfl (Keeps.refl _ _)
  rw [utf_Tag.b_eq, show ((45 : Int)) = ((45 : Nat) : Int) from rfl, spelt_spec s hs 45 st]
  rfl
theorem refTag_spec (s : ByteArray) (hs : s.size < 9223372036854775800) (st : Sto) : CallR ap 16 [.str s] st = some (.ret (.bool (wordB s 45)), st) := by
  rw [stencilref3_Tag.call]
  refine ret_keep ?_ rfl rfl (Keeps.refl _ _)
  rw [stencilref3_Tag.b_eq, show ((45 : Int)) = ((45 : Nat) : Int) from rfl, word_spec s hs 45 st]
  rfl

end Go.Proofs.YtalicpebjjoeaaaDoor
