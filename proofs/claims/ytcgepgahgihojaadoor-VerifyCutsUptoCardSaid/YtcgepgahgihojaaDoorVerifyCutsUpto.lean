/- VerifyCuts. -/
import Derived.Test.YtcgepgahgihojaaDoorVY
import Derived.Test.YtcgepgahgihojaaDoorL
import Derived.Test.YtcgepgahgihojaaDoorCards
import Derived.Test.YtcgepgahgihojaaDoorTie
import Derived.WalkKit
import Derived.ProofKit
import Derived.OpenShut
import Derived.Deep.DeepHandedRow
import Derived.Lib.LaidTab
import Derived.Test.YtcgepgahgihojaaDoorStS23
namespace Go.Proofs.YtcgepgahgihojaaDoor.vcuts
open Go.ChangeShapes Go.WideShapes Go.ChangeAt Go.RowKit Go.St
open Go.ChangeMaps (open_string shut_string)
set_option linter.unusedVariables false

theorem walk (xs : List AV) (vs : Array Value) (W : World) (hA : CallR ap 5 xs [] = some (.ret (.bool true), [])) (hV : VRs (Gh.start W) xs vs.toList) (hL : laidMet Tryd.prog [("unicode/utf8.acceptRanges", Rows.laid_unicode_utf8_acceptRanges), ("unicode/utf8.first", Rows.laid_unicode_utf8_first)] W) : Calls Tryd.prog 5 vs W fun e W' => e = .returned (.bool true) ∧ Below W.heap.size W W' := by
  refine (top_ret (sound W) hA (globs hL) hV).mono fun e W' he => ?_
  obtain ⟨v, G, rfl, hv, hb⟩ := he
  exact ⟨by rw [hv.bool_inv], hb⟩

theorem bulkAll {H : Type} (l : List (DataW H)) : Rows.uptoBulkAll l = (l.map Rows.uptoBulk).sum := by
  induction l with
  | nil => rfl
  | cons d r ih => rw [Rows.uptoBulkAll, ih]; rfl
theorem bulkPos {H : Type} (d : DataW H) : 1 ≤ Rows.uptoBulk d := by
  cases d with
  | lit l => cases l <;> simp [Rows.uptoBulk]
  | nil => simp [Rows.uptoBulk]
  | held h => simp [Rows.uptoBulk]
  | _ => rw [Rows.uptoBulk]; omega
theorem bulkOf {H : Type} {n : Nat} {t : TypeId} {d : DataW H} {l : List AV} (h : avD ap n t d = some l) : bulks l ≤ Rows.uptoBulk d :=
  avD_bulk Rows.uptoBulk Rows.uptoBulkAll bulkPos (fun s => by rw [Rows.uptoBulk]) (fun a b => by rw [Rows.uptoBulk]; omega) (fun a => by rw [Rows.uptoBulk]; omega) bulkAll n t d l h

theorem laidOut : laidOutB Tryd.prog = true := by kernel_rfl
theorem own : ownKnob Tryd.prog.godebug = none := by kernel_rfl

set_option maxRecDepth 100000 in
theorem contract (H : Type) (enc : TypeId × Value → H) (W : World) (base : Nat) (args : Array Value) (ds gs : List (DataW H)) (before : List MemPlace)
    (hval : ∀ (j : Nat) t v, Tryd.f5.params[j]? = some t → args[j]? = some v → Value.okWide Tryd.prog W .any base t v)
    (hW : DataW.Whole enc Tryd.prog Tryd.f5.params.toList Rows.verifyCutsSpec.vars false W args.toList ds gs before) (hL : laidMetH Tryd.prog Rows.verifyCutsUptoRow.laid W)
    (hk : Rows.uptoSmall H (ds ++ gs) = true)
    (hw : (DataW.weightsEach Tryd.prog (Tryd.f5.params.toList ++ (Rows.OpenSpec.upto Rows.verifyCutsSpec).bare.plain.varTypes Tryd.prog) (ds ++ gs)).all (· ≤ reachBytes) = true) :
    Calls Tryd.prog 5 args W fun e W' => ∃ v, e = .returned v ∧ Rows.verifyCutsSpec.post enc Tryd.prog Tryd.f5 false true false false W args v W' := by
  have hW' := hW
  obtain ⟨p, q, hA0, hV, rfl, hfz, hnd⟩ := hW
  have hA : DataW.TrodAll enc Tryd.prog W 0 (fun _ => true) true Tryd.f5.params.toList args.toList ds p := hA0
  rw [Tryd.params5] at hA hval
  obtain ⟨v0, vs0, d0, ds0, p0, q0, hargs0, rfl, rfl, t0, r0⟩ := trodAll_cons hA
  obtain ⟨v1, vs1, d1, ds1, p1, q1, hargs1, rfl, rfl, t1, r1⟩ := trodAll_cons r0
  obtain ⟨rfl, rfl, rfl⟩ := trodAll_nil r1
  obtain rfl : args = #[v0, v1] := by apply Array.ext'; simp [hargs0, hargs1]
  obtain ⟨rfl, rfl⟩ := trodVars_none hV
  simp only [Tryd.params5, List.append_nil] at hw hk
  have hwt := all_le hw
  have hk' := of_decide_eq_true hk
  simp only [Rows.uptoBulkAll] at hk'
  obtain ⟨c0, rfl⟩ : ∃ cs, v0 = .agg cs := by
    have h := hval 0 27 v0 rfl rfl
    unfold Value.okWide at h
    rw [Tryd.underlying27] at h
    obtain ⟨cs, h1, _⟩ := h
    exact ⟨cs, h1⟩
  have t0k := t0
  obtain ⟨n0, hn0⟩ := t0k
  obtain ⟨l0, hl0, hv0, _⟩ := trod_av tabOk (ts := [27, 22, 9, 23, 44, 43, 3, 24, 47, 45, 117, 25, 37, 35, 39, 34]) (by kernel_rfl) n0 27 _ d0 p0 (by decide) hn0
  obtain ⟨m0, hm0, hs0⟩ := trod_shape tabOk (ts := [27, 22, 9, 23, 44, 43, 3, 24, 47, 45, 117, 25, 37, 35, 39, 34]) (by kernel_rfl) n0 27 _ d0 p0 (by decide) hn0 (fun x hx => hwt x (weightsEach_mem (i := 0) rfl rfl x hx))
  obtain rfl : l0 = m0 := Option.some.inj (hl0.symm.trans hm0)
  have hb0 := bulkOf hl0
  obtain ⟨x1, rfl, rfl, rfl, hmax1⟩ := open_int Tryd.underlying3 (hval 1 3 v1 rfl rfl) t1
  have hw1 : -9223372036854775808 ≤ x1 ∧ x1 < 9223372036854775808 := by
    have h := hmax1
    simp only [Lit.wf, IntKind.min, IntKind.max, IntKind.signed, IntKind.bits, Bool.and_eq_true, decide_eq_true_eq, if_true] at h
    omega
  clear hA0
  simp only [List.append_nil] at hW'
  refine (walk [.agg l0, .int .i64 x1] _ W (Go.Proofs.YtcgepgahgihojaaDoor.cuts_law hs0 (by omega) x1) (VRs.cons (VR.deepAgg hv0) (VRs.cons (.int .i64 x1) (VRs.nil _))) hL).mono fun e W' ⟨he, hg⟩ => ?_
  subst he
  exact ⟨_, rfl, post_far (pv := []) hW' (fun _ _ _ => trodAll_cons_mk (shut_bool Tryd.underlying4 _) trodAll_mk0)
    (trodAll_cons_mk (Below.trod laidOut (by kernel_rfl) (of_decide_eq_true (by kernel_rfl)) t0 hg (fun x hx => hW'.lt x (by simp [hx]))) (trodAll_cons_mk (shut_int Tryd.underlying3 hmax1) (trodAll_mk0))) (fun _ _ => rfl) hg⟩

noncomputable def laid1 : List Value := [.int .u8 128, .int .u8 191, .int .u8 160, .int .u8 191, .int .u8 128, .int .u8 159, .int .u8 144, .int .u8 191, .int .u8 128, .int .u8 143, .int .u8 0, .int .u8 0, .int .u8 0, .int .u8 0, .int .u8 0, .int .u8 0, .int .u8 0, .int .u8 0, .int .u8 0, .int .u8 0, .int .u8 0, .int .u8 0, .int .u8 0, .int .u8 0, .int .u8 0, .int .u8 0, .int .u8 0, .int .u8 0, .int .u8 0, .int .u8 0, .int .u8 0, .int .u8 0]
noncomputable def laid0 : List Value := Go.Pinned.utf8FirstZ.map fun (n : Nat) => Value.int .u8 (n : Int)
def setLaid (g : Nat) (cs : List Value) (h : Array Obj) : Array Obj := h.modify g fun
  | .cells _ t frozen => .cells cs.toArray t frozen
  | o => o
noncomputable def laidWorld (os : Os) : World := { World.holding Tryd.prog os ⟨#[], #[], []⟩ with heap := setLaid 0 laid0 (setLaid 1 laid1 ((World.holding Tryd.prog os ⟨#[], #[], []⟩).heap)) }
set_option maxRecDepth 100000 in
theorem laid_met (os : Os) : laidMet Tryd.prog Rows.verifyCutsUptoRow.laid ((laidWorld os).forCall (fun _ _ => 0) ⟨#[], #[.agg #[.slice none 0 0, .slice none 0 0, .slice none 0 0, .slice none 0 0], .int .i64 0], []⟩).memory :=
  laidMet_of_run' 8 (by kernel_rfl) (by kernel_rfl)
theorem reads (os : Os) {H : Type} (enc : TypeId × Value → H) : ∃ places, DataW.whole enc Tryd.prog ((laidWorld os).forCall (fun _ _ => 0) ⟨#[], #[.agg #[.slice none 0 0, .slice none 0 0, .slice none 0 0, .slice none 0 0], .int .i64 0], []⟩).memory Tryd.f5.params.toList Rows.verifyCutsSpec.vars false (#[.agg #[.slice none 0 0, .slice none 0 0, .slice none 0 0, .slice none 0 0], .int .i64 0] : Array Value).toList 8 = some ([.agg [.nil, .nil, .nil, .nil], .lit (.int .i64 0)], [], places) :=
  ⟨[], by kernel_rfl⟩

set_option maxRecDepth 100000 in
theorem lifted (os : Os) (started : os.Started) (H : Type) (enc : TypeId × Value → H) (F : Stop.Interp) :
    ReturnsInHanded {} Tryd.checked os 5 .any ((Rows.OpenSpec.upto Rows.verifyCutsSpec).preRow enc Tryd.prog Tryd.f5 Rows.verifyCutsUptoRow.domain false Rows.verifyCutsUptoRow.laid) (((Rows.OpenSpec.upto Rows.verifyCutsSpec).at F).post enc Tryd.prog Tryd.f5 false true false false) := by
  obtain ⟨places, hx⟩ := reads os enc
  refine returnsInHanded_of_row (C := Tryd.checked) (s := (Rows.OpenSpec.upto Rows.verifyCutsSpec)) own started (by kernel_rfl) Tryd.func5
    (witness_row_at (enc := enc) (C := Tryd.checked) false (laidWorld os) #[.agg #[.slice none 0 0, .slice none 0 0, .slice none 0 0, .slice none 0 0], .int .i64 0] rfl (by kernel_rfl) (by kernel_rfl) (by kernel_rfl)
      (OpenSpec.preRow_of_cond 8 hx (by kernel_rfl) (fun k hk => by cases hk; kernel_rfl) (by kernel_rfl) (laid_met os))) ?_
  intro W base args ds gs before hval hW _ hk hw hL _ _
  exact contract H enc W base args ds gs before hval hW hL (hk _ rfl) hw

theorem said : Rows.VerifyCutsUptoSaid :=
  OpenClaim.holds_of_cond 5 Tryd.f5 rfl rfl rfl rfl rfl rfl rfl ⟨rfl, rfl, rfl, rfl, rfl⟩ rfl rfl rfl rfl rfl (by kernel_rfl) Tryd.func5 (by kernel_rfl)
    (of_decide_eq_true (by kernel_rfl)) (by unfold Func.isWrapper; first | (rw [if_pos (by decide +kernel)]; kernel_rfl) | (rw [if_neg (by decide +kernel)]; exact ⟨rfl, rfl⟩))
    (fun os started H enc _ F => by rw [OpenClaim.pre_eq_preRow]; exact lifted os started H enc F)

theorem plain (f : FuncId) (fn : Func) (hf : Tryd.pinned.checked.prog.funcNamed "stencil/stencillaw22.VerifyCuts" = some f) (hfn : Tryd.pinned.checked.prog.funcs[f]? = some fn) :
    false = Tryd.pinned.checked.prog.looks [] ∧ ∀ (j : Nat) t, fn.params[j]? = some t → Tryd.pinned.checked.prog.wantsStandIn t = false := by
  obtain rfl : f = 5 := Option.some.inj ((show Tryd.prog.funcNamed "stencil/stencillaw22.VerifyCuts" = some 5 by kernel_rfl).symm.trans hf) |>.symm
  obtain rfl : fn = Tryd.f5 := (Option.some.inj (Tryd.func5.symm.trans hfn)).symm
  refine ⟨by kernel_rfl, fun j t ht => ?_⟩
  rw [Tryd.params5] at ht
  have hm := Array.mem_of_getElem? ht
  simp only [List.mem_toArray, List.mem_cons, List.not_mem_nil, or_false] at hm
  rcases hm with rfl | rfl
  · exact (show Tryd.prog.wantsStandIn 27 = false by kernel_rfl)
  · exact (show Tryd.prog.wantsStandIn 3 = false by kernel_rfl)

theorem proved : Rows.VerifyCutsUptoCardSaid :=
  Claim7.holds_tied_plain_at .later [] _ _ _ _ said (fun _ h => by cases h) (by kernel_rfl) (fun _ h => by cases h) verifyCutsUpto_row_tie rfl ⟨rfl, rfl⟩ (by kernel_rfl) rfl plain (by kernel_rfl)
end Go.Proofs.YtcgepgahgihojaaDoor.vcuts
