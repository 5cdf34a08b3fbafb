/- The laws of layer 3 on the machine. -/
import Derived.Test.YtalicpebjjoeaaaDoorUN
namespace Go.Proofs.YtalicpebjjoeaaaDoor
open Go.St Go.Lib
set_option linter.unusedVariables false
set_option linter.unusedSimpArgs false

theorem num_spec (a : Int) (st : Sto) : CallR ap 9 [.int .i64 a] st = some (.ret (.int .i64 a), st) := by
  rw [stencillaw0_Num.call]
  exact ret_keep (stencillaw0_Num.b_eq a st) rfl rfl (Keeps.refl _ _)

theorem scan97 : Scan ⟨#[97, 255]⟩ 0 (some 1) := .step 0 _ (by decide) (by decide) (.bad 1 (by decide) (by decide))
theorem place97 : placeOut ⟨#[97, 98, 10, 99]⟩ 4 = .tup [.int .i64 2, .int .i64 2, .int .i64 0] := by rfl
theorem w1 : wordB ⟨#[97, 95, 49]⟩ 95 = true := by decide
theorem w2 : wordB ⟨#[97, 45, 49]⟩ 95 = false := by decide
theorem w3 : wordB ⟨#[97, 45, 49]⟩ 45 = true := by decide
theorem w4 : wordB ⟨#[65]⟩ 45 = false := by decide

theorem awake_spec (st : Sto) : CallR ap 10 [] st = some (.ret (.bool true), st) := by
  rw [stencillaw3_awake.call]
  refine ret_keep ?_ rfl rfl (Keeps.refl _ _)
  rw [stencillaw3_awake.b_eq]
  simp only [valid_spec (by decide) scan97, validOut, place_spec _ _ (show (⟨#[97, 98, 10, 99]⟩ : ByteArray).size < 9223372036854775800 by decide), place97, name_spec _ (show (⟨#[97, 95, 49]⟩ : ByteArray).size < 9223372036854775800 by decide), name_spec _ (show (⟨#[97, 45, 49]⟩ : ByteArray).size < 9223372036854775800 by decide),
    tag_spec _ (show (⟨#[97, 45, 49]⟩ : ByteArray).size < 9223372036854775800 by decide), tag_spec _ (show (⟨#[65]⟩ : ByteArray).size < 9223372036854775800 by decide), w1, w2, w3, w4, Option.bind_some, Out.on, ext, List.getElem?_cons_zero, List.getElem?_cons_succ, num_spec, asI, if_true,
    decide_true, cond_true, cond_false, pickK, asB, guardT, gOn, Bool.not_false, Bool.not_true, show decide (((1 : Nat) : Int) = 1) = true from rfl]

theorem valids (s : ByteArray) (hs : s.size < 9223372036854775800) (st : Sto) : CallR ap 3 [.str s] st = some (.ret (.bool true), st) := by
  obtain ⟨r, hr⟩ := scan_ex s s.size 0 (by omega) (by omega)
  rw [stencillaw3_UtfValids.call]
  refine ret_keep ?_ rfl rfl (Keeps.refl _ _)
  rw [stencillaw3_UtfValids.b_eq]
  cases r with
  | none => simp only [valid_spec hs hr, refValid_spec hs hr, validOut, Option.bind_some, Out.on, ext, List.getElem?_cons_zero, List.getElem?_cons_succ, num_spec, asI, if_true, decide_true, cond_true, awake_spec, pickK, asB]
  | some a => simp only [valid_spec hs hr, refValid_spec hs hr, validOut, Option.bind_some, Out.on, ext, List.getElem?_cons_zero, List.getElem?_cons_succ, num_spec, asI, if_true, decide_true, cond_true, awake_spec, pickK, asB]

theorem places (s : ByteArray) (a : Int) (hs : s.size < 9223372036854775800) (st : Sto) : CallR ap 4 [.str s, .int .i64 a] st = some (.ret (.bool true), st) := by
  rw [stencillaw3_UtfPlaces.call]
  refine ret_keep ?_ rfl rfl (Keeps.refl _ _)
  rw [stencillaw3_UtfPlaces.b_eq]
  obtain ⟨x, y, z, h⟩ : ∃ x y z, placeOut s a = .tup [.int .i64 x, .int .i64 y, .int .i64 z] := by unfold placeOut; split <;> exact ⟨_, _, _, rfl⟩
  simp only [place_spec s a hs, refPlace_spec s a hs, h, Option.bind_some, Out.on, ext, List.getElem?_cons_zero, List.getElem?_cons_succ, num_spec, asI, if_true, decide_true, cond_true, awake_spec, pickK, asB]

theorem names (s : ByteArray) (hs : s.size < 9223372036854775800) (st : Sto) : CallR ap 5 [.str s] st = some (.ret (.bool true), st) := by
  rw [stencillaw3_UtfNames.call]
  refine ret_keep ?_ rfl rfl (Keeps.refl _ _)
  rw [stencillaw3_UtfNames.b_eq]
  have e : ∀ b : Bool, eqV .bool [] false (.bool b) (.bool b) = some true := fun b => by cases b <;> rfl
  simp only [name_spec s hs, refName_spec s hs, tag_spec s hs, refTag_spec s hs, e, Option.bind_some, Out.on, cond_true, awake_spec, pickK, asB]

theorem joins_loop {s : ByteArray} (hs : s.size < 9223372036854775800) {i : Nat} {r : Option Nat} (h : Scan s i r) (hr : r = none) (n id : Nat) (hn : n ≤ id) : ∀ st : Sto, st[id]? = some (.iter s i) →
    ∃ st', stencillaw3_UtfJoins.p1111111110100 (.int .i64 ((place s s.size).1 : Nat)) (.int .i64 ((place s s.size).2 : Nat)) (.int .i64 0) ((place s i).1 : Nat) ((place s i).2 : Nat) (.it id) st = some ⟨.ret (.bool true), none, st'⟩ ∧ Keeps n st st' := by
  induction h with
  | done i h =>
    intro st hst
    subst h
    rw [stencillaw3_UtfJoins.p1111111110100_eq]
    simp only [next_end hst, Option.bind_some, ext, List.getElem?_cons_zero, asB, cond_false, num_spec, Out.on, asI, if_true, decide_true, cond_true]
    exact ⟨_, rfl, Keeps.refl _ _⟩
  | bad i h hb => cases hr
  | step i r h hb k ih =>
    intro st hst
    have hid : id < st.length := (List.getElem?_eq_some_iff.1 hst).1
    have hset : (st.set id (.iter s (i + (dec s i).2)))[id]? = some (.iter s (i + (dec s i).2)) := List.getElem?_set_self hid
    obtain ⟨st', h1, h2⟩ := ih hr _ hset
    refine ⟨st', ?_, (Keeps.set hn).trans h2⟩
    have hl := place_le s i
    have wl : IntKind.wrap .i64 (((place s i).1 : Nat) + 1 : Int) = (((place s i).1 + 1 : Nat) : Int) := w64 _ (by omega) (by omega)
    have wc : IntKind.wrap .i64 (((place s i).2 : Nat) + 1 : Int) = (((place s i).2 + 1 : Nat) : Int) := w64 _ (by omega) (by omega)
    rw [place_rune h hb] at h1
    rw [stencillaw3_UtfJoins.p1111111110100_eq]
    simp only [next_at hst h, Option.bind_some, ext, List.getElem?_cons_zero, List.getElem?_cons_succ, asB, cond_true, asI, if_true]
    by_cases h10 : (dec s i).1 = 10
    · have h10' : (((dec s i).1 : Nat) : Int) = 10 := by omega
      simp only [h10, if_true] at h1
      simp only [h10', decide_true, cond_true, wl]
      exact h1
    · have h10' : ¬ (((dec s i).1 : Nat) : Int) = 10 := by omega
      simp only [h10, if_false] at h1
      simp only [h10', decide_false, cond_false, wc]
      exact h1

theorem joins (s t : ByteArray) (hs : s.size + t.size < 9223372036854775800) (st : Sto) : CallR ap 6 [.str s, .str t] st = some (.ret (.bool true), st) := by
  have hs1 : s.size < 9223372036854775800 := by omega
  have hs2 : t.size < 9223372036854775800 := by omega
  have hs3 : (s ++ t).size < 9223372036854775800 := by rw [ByteArray.size_append]; omega
  have hsz : s.size + t.size ≤ 9223372036854775807 := by omega
  obtain ⟨r, hr⟩ := scan_ex s s.size 0 (by omega) (by omega)
  obtain ⟨r', hr'⟩ := scan_ex t t.size 0 (by omega) (by omega)
  suffices h : ∃ st', stencillaw3_UtfJoins.b s t st = some ⟨.ret (.bool true), none, st'⟩ ∧ Keeps st.length st st' by
    obtain ⟨st', h1, h2⟩ := h
    rw [stencillaw3_UtfJoins.call]
    exact ret_keep h1 rfl rfl h2
  rw [stencillaw3_UtfJoins.b_eq]
  cases r with
  | some a =>
    have ha := scan_some hr rfl
    have hp := scan_prefix hr rfl
    have hps : (s.extract 0 a).size < 9223372036854775800 := by simp [ByteArray.size_extract]; omega
    have n1 : ¬ ((a : Int) < 0) := by omega
    have n2 : ¬ (((s.size : Nat) : Int) ≤ (a : Int)) := by omega
    have hb : bnd s.size s.size (some (.int .i64 (a : Int))) = some a := by simp [bnd]; omega
    cases r' <;> (
    simp only [awake_spec, valid_spec hs1 hr, valid_spec hs2 hr', Option.bind_some, Out.on, asB, Bool.not_true, cond_false, validOut, ext, List.getElem?_cons_zero, List.getElem?_cons_succ, num_spec, asI, if_true, show decide ((300 : Int) = 0) = false from rfl, Bool.not_false, cond_true, n1, n2, decide_false,
      stencillaw3_UtfJoins.p111101001_eq, hb, valid_spec hps hp, decide_true]
    exact ⟨_, rfl, Keeps.refl _ _⟩)
  | none =>
    have hj := scan_join hr rfl hr'
    obtain ⟨st', h1, h2⟩ := joins_loop hs1 hr rfl st.length st.length (Nat.le_refl _) (st ++ [.iter s 0]) (by simp)
    have hpl : placeOut s ((s.size : Nat) : Int) = .tup [.int .i64 ((place s s.size).1 : Nat), .int .i64 ((place s s.size).2 : Nat), .int .i64 0] := by
      unfold placeOut
      rw [if_neg (by omega)]
      rfl
    cases r' with
    | none =>
      simp only [Option.map_none] at hj
      simp only [awake_spec, valid_spec hs1 hr, valid_spec hs2 hr', valid_spec hs3 hj, Option.bind_some, Out.on, asB, Bool.not_true, cond_false, validOut, ext, List.getElem?_cons_zero, List.getElem?_cons_succ, num_spec, asI, if_true, decide_true, hsz, place_spec s _ hs1, hpl]
      exact ⟨st', h1, (Keeps.app (Nat.le_refl _)).trans h2⟩
    | some a =>
      simp only [Option.map_some] at hj
      simp only [awake_spec, valid_spec hs1 hr, valid_spec hs2 hr', valid_spec hs3 hj, Option.bind_some, Out.on, asB, Bool.not_true, cond_false, validOut, ext, List.getElem?_cons_zero, List.getElem?_cons_succ, num_spec, asI, if_true, decide_true, hsz, place_spec s _ hs1, hpl]
      exact ⟨st', h1, (Keeps.app (Nat.le_refl _)).trans h2⟩

end Go.Proofs.YtalicpebjjoeaaaDoor
