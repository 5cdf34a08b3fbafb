/- Arguments that lead far: what a row reads behind the call. -/
import Derived.Test.YtcgepgahgihojaaDoorStS20
import Derived.Carry
namespace Go.St
open Go.RowKit Go.ChangeShapes Go.WideShapes
set_option linter.unusedVariables false
set_option linter.unusedSimpArgs false

/-- Nothing that was there is changed: the arguments' readings at the heap's old size. -/
theorem post_far {H : Type} {enc : TypeId × Value → H} {P : Program} {f : Func} {s : ChangeSpec} {apart fresh handsOn : Bool} {W W' : World} {args : Array Value} {v : Value} {ds gs : List (DataW H)} {before pa pv : List MemPlace}
    (hW : DataW.Whole enc P f.params.toList s.vars apart W args.toList ds gs before)
    (hres : ∀ (b : Nat) (sp : Nat → Bool) (hd : Bool), DataW.TrodAll enc P W' b sp hd f.resultTypes.toList (v.resultList f.resultTypes.size) (s.fn H (ds ++ gs)).results [])
    (hargs : DataW.TrodAll enc P W' 0 (fun b => decide (b < W.heap.size)) true f.params.toList args.toList (s.fn H (ds ++ gs)).args pa)
    (hvars : ∀ sp : Nat → Bool, (∀ p ∈ before, sp p.block = true) → DataW.TrodVars enc P W' sp s.vars (s.fn H (ds ++ gs)).vars pv)
    (hb : Below W.heap.size W W') : s.post enc P f apart fresh handsOn false W args v W' := by
  have hold : ∀ p ∈ before, decide (p.block < W.heap.size) = true := fun p hp => by simpa using hW.lt p hp
  exact ⟨ds, gs, before, [], pa, pv, hW, hres _ _ _, hargs, hvars _ hold, hb.frame _, fun h => by cases h⟩

/-- Cells of which nothing is known. -/
theorem VR.ones {G : Gh} {n : Nat} {cs : Array Value} (hn : cs.size = n) (h : ∀ v ∈ cs.toList, v.oneCell' = true) : VR G (.agg (List.replicate n .one)) (.agg cs) := by
  refine .agg _ cs (by simp [hn]) fun j a v ha hv => ?_
  rw [List.getElem?_replicate] at ha
  split at ha
  · cases ha
    exact .one v (h v (by simpa using Array.mem_of_getElem? hv))
  · cases ha

theorem trod_ones {P : Program} {A : AProg} (hT : TabOk P A) {ts : List TypeId} (hc : closedOn A ts = true) {H : Type} {enc : TypeId × Value → H} {w : World} {base : Nat} {sp : Nat → Bool} {held : Bool} {t : TypeId} {v : Value} {d : DataW H} {p : List MemPlace} (ht : t ∈ ts)
    (h : DataW.Trod enc P w base sp held t v d p) : ∀ x ∈ v.cells.toList, x.oneCell' = true := by
  obtain ⟨n, hn⟩ := h
  obtain ⟨_, _, _, h1⟩ := trod_av hT hc n t _ d p ht hn
  exact h1
end Go.St
