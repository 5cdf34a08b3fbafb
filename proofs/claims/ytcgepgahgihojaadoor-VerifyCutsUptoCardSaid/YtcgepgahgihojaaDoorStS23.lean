/- Arguments that lead far: from their shape to the machine's values. -/
import Derived.Test.YtcgepgahgihojaaDoorStS22
namespace Go.St
open Go.RowKit
set_option linter.unusedVariables false
set_option linter.unusedSimpArgs false

theorem VR.deep {G : Gh} {l : List AV} {v : Value} (hv : ∀ cs, v ≠ .agg cs) (h : VRs G l v.cells.toList) : VR G (l.headD .any) v := by
  have hc : v.cells.toList = [v] := by
    cases v <;> first | rfl | exact absurd rfl (hv _)
  rw [hc] at h
  have hl := h.len
  cases l with
  | nil => simp at hl
  | cons a r => exact h.at_ 0 a v rfl rfl

theorem VR.deepAgg {G : Gh} {l : List AV} {cs : Array Value} (h : VRs G l cs.toList) : VR G (.agg l) (.agg cs) :=
  .agg l cs (by simpa using h.len) fun j a v ha hv => h.at_ j a v ha (by simpa using hv)

theorem all_le {l : List Nat} {n : Nat} (h : l.all (· ≤ n) = true) : ∀ x ∈ l, x ≤ n := by simpa using h
end Go.St
