/- Names, and the laws of layer 3. -/
import Derived.Test.YtjcpcglhjeoifaaDoorUM
namespace Go.Proofs.YtjcpcglhjeoifaaDoor
open Go.St Go.Lib
set_option linter.unusedVariables false
set_option linter.unusedSimpArgs false

set_option maxRecDepth 100000 in
theorem okAt_mid (s : ByteArray) (q : Nat) (st : Sto) (n : Int) (i : Nat) :
    (bif decide ((97 : Int) ≤ (bat s i : Int)) then utf_spelt.p101001100111 s (q : Int) (i : Int) (bat s i : Int) (decide ((bat s i : Int) ≤ 122)) n (i : Int) st else utf_spelt.p101001100111 s (q : Int) (i : Int) (bat s i : Int) false n (i : Int) st)
      = utf_spelt.p1010011001111 s (q : Int) n (i : Int) (!okAt s q i) st := by
  have e1 : ((97 : Int) ≤ (bat s i : Int)) = (97 ≤ bat s i) := propext ⟨fun h => by omega, fun h => by omega⟩
  have e2 : ((bat s i : Int) ≤ 122) = (bat s i ≤ 122) := propext ⟨fun h => by omega, fun h => by omega⟩
  have e3 : ((i : Int) = 0) = (i = 0) := propext ⟨fun h => by omega, fun h => by omega⟩
  have e4 : ((bat s i : Int) = (q : Int)) = (bat s i = q) := propext ⟨fun h => by omega, fun h => by omega⟩
  have e5 : ((bat s i : Int) < 48) = (bat s i < 48) := propext ⟨fun h => by omega, fun h => by omega⟩
  have e6 : ((57 : Int) < (bat s i : Int)) = (57 < bat s i) := propext ⟨fun h => by omega, fun h => by omega⟩
  have key : ∀ x : Bool, x = (!okAt s q i) → utf_spelt.p1010011001111 s (q : Int) n (i : Int) x st = utf_spelt.p1010011001111 s (q : Int) n (i : Int) (!okAt s q i) st := by rintro x rfl; rfl
  simp only [e1, e2, e3, e4, e5, e6, utf_spelt.p101001100111_eq, Bool.cond_not, Bool.cond_decide, cond_false]
  repeat' split
  all_goals refine key _ ?_
  all_goals unfold okAt
  all_goals rw [Bool.eq_iff_iff]
  all_goals simp only [true_iff, false_iff, Bool.not_eq_true', Bool.not_eq_false', Bool.or_eq_false_iff, Bool.and_eq_false_iff, Bool.or_eq_true, Bool.and_eq_true, decide_eq_true_eq, decide_eq_false_iff_not, Bool.false_eq_true, ne_eq, Bool.not_true, Bool.not_false]
  all_goals omega

theorem spelt_loop (s : ByteArray) (hs : s.size < 9223372036854775800) (q : Nat) (st : Sto) : ∀ m i : Nat, i + m = s.size →
    utf_spelt.p10100 s (q : Int) (s.size : Nat) (i : Int) st = some ⟨.ret (.bool (allOk s q m i && (decide (1 ≤ s.size) && decide (s.size ≤ 32)))), none, st⟩ := by
  intro m
  induction m with
  | zero =>
    intro i h
    obtain rfl : i = s.size := by omega
    rw [utf_spelt.p10100_eq]
    have e1 : ((0 : Int) < (s.size : Int)) = (1 ≤ s.size) := propext ⟨fun h => by omega, fun h => by omega⟩
    have e2 : ((s.size : Int) ≤ 32) = (s.size ≤ 32) := propext ⟨fun h => by omega, fun h => by omega⟩
    simp only [Int.lt_irrefl, decide_false, cond_false, e1, e2, allOk, Bool.true_and]
    by_cases h1 : 1 ≤ s.size
    · simp [h1]
    · simp [h1]
  | succ m ih =>
    intro i h
    have hi : i < s.size := by omega
    have hlt : (i : Int) < ((s.size : Nat) : Int) := by omega
    have wi : IntKind.wrap .i64 ((i : Int) + 1) = ((i + 1 : Nat) : Int) := w64 _ (by omega) (by omega)
    rw [utf_spelt.p10100_eq]
    simp only [hlt, decide_true, cond_true, idx_nat hi, Option.bind_some, byt_bat]
    rw [okAt_mid, utf_spelt.p1010011001111_eq, wi, allOk, ih (i + 1) (by omega)]
    cases okAt s q i <;> simp

theorem spelt_spec (s : ByteArray) (hs : s.size < 9223372036854775800) (q : Nat) (st : Sto) : CallR ap 64 [.str s, .int .u8 (q : Int)] st = some (.ret (.bool (wordB s q)), st) := by
  rw [utf_spelt.call]
  refine ret_keep ?_ rfl rfl (Keeps.refl _ _)
  rw [utf_spelt.b_eq]
  have := spelt_loop s hs q st s.size 0 (by omega)
  rw [show ((0 : Int)) = ((0 : Nat) : Int) from rfl, this]
  unfold wordB
  rw [Bool.and_comm]

theorem tag_spec (s : ByteArray) (hs : s.size < 9223372036854775800) (st : Sto) : CallR ap 57 [.str s] st = some (.ret (.bool (wordB s 45)), st) := by
  rw [utf_Tag.call]
  refine ret_keep ?_ rfl rfl (Keeps.refl _ _)
  rw [utf_Tag.b_eq, show ((45 : Int)) = ((45 : Nat) : Int) from rfl, spelt_spec s hs 45 st]
  rfl
end Go.Proofs.YtjcpcglhjeoifaaDoor
