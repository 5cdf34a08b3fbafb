/- Texts that may be. -/
import Derived.Test.YtcgepgahgihojaaDoorUM
namespace Go.Proofs.YtcgepgahgihojaaDoor
open Go.St Go.Lib
set_option linter.unusedVariables false
set_option linter.unusedSimpArgs false

theorem scan_det {s : ByteArray} {i : Nat} {r r' : Option Nat} (h : Scan s i r) (h' : Scan s i r') : r = r' := by
  induction h with
  | done i h => cases h' <;> first | rfl | omega
  | bad i h hb => cases h' <;> first | rfl | omega | contradiction
  | step i r h hb k ih =>
    cases h' with
    | done _ h2 => omega
    | bad _ _ hb2 => contradiction
    | step _ _ _ _ k2 => exact ih k2

open Classical in
/-- A text that may be. -/
noncomputable def okT (s : ByteArray) : Bool := decide (Scan s 0 none) && decide (s.size ≤ 4096)

open Classical in
theorem shapeValid_spec (s : ByteArray) (hs : s.size < 9223372036854775800) (st : Sto) : CallR ap 19 [.str s] st = some (.ret (.bool (okT s)), st) := by
  obtain ⟨r, hr⟩ := scan_ex s s.size 0 (by omega) (by omega)
  rw [shape_Valid.call]
  refine ret_keep ?_ rfl rfl (Keeps.refl _ _)
  rw [shape_Valid.b_eq]
  unfold okT
  cases r with
  | none =>
    have e : (((ByteArray.size s : Nat) : Int) ≤ 4096) = (s.size ≤ 4096) := propext ⟨fun h => by omega, fun h => by omega⟩
    simp only [valid_spec hs hr, validOut, Option.bind_some, Out.on, ext, List.getElem?_cons_zero, List.getElem?_cons_succ, asI, if_true, decide_true, cond_true, e, hr, Bool.true_and]
  | some a =>
    have e : ¬ Scan s 0 none := fun h => by have := scan_det h hr; cases this
    simp only [valid_spec hs hr, validOut, Option.bind_some, Out.on, ext, List.getElem?_cons_zero, List.getElem?_cons_succ, asI, if_true, show decide ((300 : Int) = 0) = false from rfl, cond_false, e, decide_false, Bool.false_and]
end Go.Proofs.YtcgepgahgihojaaDoor
