/- From a row to the machine. -/
import Derived.Test.YtnjpbbiolngfkaaDoorStS14
import Derived.ChangeSame
namespace Go.St
open Go.RowKit
set_option linter.unusedVariables false
set_option linter.unusedSimpArgs false

/-- Before the call all that is there is what no one writes. -/
def Gh.start (W : World) : Gh where
  ρ := fun _ _ => none
  H := fun b => match W.heap[b]? with | some (.cells arr _ _) => some arr.toList | _ => none
  Z := fun b => match W.heap[b]? with | some (.cells arr _ _) => some arr.size | _ => none

theorem rel_start (T e : TypeId) (W : World) : Rel T e W (Gh.start W) [] W := by
  refine ⟨fun _ => none, Below.refl _ _, fun b l hb => ?_, fun b n hn => ?_, fun i g x hx => (by cases hx), fun b i hb => (by cases hb), fun i ob hi => by simp at hi⟩
  · simp only [Gh.start] at hb
    split at hb
    · rename_i arr t fr h; cases hb; exact ⟨arr, t, fr, [], h, by simp⟩
    · cases hb
  · simp only [Gh.start] at hn
    split at hn
    · rename_i arr t fr h; cases hn; exact ⟨arr, t, fr, h, rfl⟩
    · cases hn

theorem top_ret {P : Program} {A : AProg} {W : World} (hS : Sound P A W) {f : FuncId} {args : List AV} {vs : Array Value} {x : AV} {st' : Sto} (h : CallR A f args [] = some (.ret x, st')) (hGl : GlobsR A (Gh.start W)) (hv : VRs (Gh.start W) args vs.toList) :
    Calls P f vs W fun e W' => ∃ v G, e = .returned v ∧ VR G x v ∧ Below W.heap.size W W' := by
  have hne : f ≠ rnd := by
    rintro rfl
    obtain ⟨k, hk⟩ := CallR_callK A h
    unfold callK at hk
    obtain ⟨c, hc, _⟩ := bind_some hk
    have hbq : Nat.beq rnd rnd = true := by decide
    unfold entry at hc
    rw [hbq] at hc
    simp only [cond_true] at hc
    unfold entryR at hc
    split at hc
    · simp at hc
    · cases hc
  refine Calls.mono ((CallR_sound hS).call f args [] (.ret x) st' (Gh.start W) W vs h hne hGl (rel_start _ _ W) hv) fun e w' he => ?_
  cases e with
  | returned v =>
    obtain ⟨G', k1, ⟨own, k2⟩, y, k3, k4⟩ := he
    cases k3
    exact ⟨v, G', rfl, k4, k2.below⟩
  | panicked ch => obtain ⟨_, _, _, y, v, k3, _⟩ := he; cases k3
  | outgrown => exact he.elim

theorem GlobsR.nil {A : AProg} (h : A.globs = []) (G : Gh) : GlobsR A G := fun g cs hg => by rw [h] at hg; cases hg

open Go.ChangeShapes Go.WideShapes in
/-- Nothing that was there is changed. -/
theorem post_below {H : Type} {enc : TypeId × Value → H} {P : Program} {f : Func} {s : ChangeSpec} {apart fresh handsOn : Bool} {W W' : World} {args : Array Value} {v : Value} {ds gs : List (DataW H)} {before pa pv : List MemPlace}
    (hW : DataW.Whole enc P f.params.toList s.vars apart W args.toList ds gs before)
    (hres : ∀ (b : Nat) (sp : Nat → Bool) (hd : Bool), DataW.TrodAll enc P W' b sp hd f.resultTypes.toList (v.resultList f.resultTypes.size) (s.fn H (ds ++ gs)).results [])
    (hargs : ∀ sp : Nat → Bool, (∀ p ∈ before, sp p.block = true) → DataW.TrodAll enc P W' 0 sp true f.params.toList args.toList (s.fn H (ds ++ gs)).args pa)
    (hvars : ∀ sp : Nat → Bool, (∀ p ∈ before, sp p.block = true) → DataW.TrodVars enc P W' sp s.vars (s.fn H (ds ++ gs)).vars pv)
    (hb : Below W.heap.size W W') : s.post enc P f apart fresh handsOn false W args v W' := by
  have hold : ∀ p ∈ before, decide (p.block < W.heap.size) = true := fun p hp => by simpa using hW.lt p hp
  exact ⟨ds, gs, before, [], pa, pv, hW, hres _ _ _, hargs _ hold, hvars _ hold, hb.frame _, fun h => by cases h⟩

end Go.St
