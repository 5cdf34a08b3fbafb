/- VerifyPrograms: every Verify of a program answers as the document's own, and the program that was lent is kept, for arguments of a bulk of at most 1048576. -/
import Derived.Test.YtcgepgahgihojaaGreatDoorCards
import Derived.Test.YtcgepgahgihojaaGreatDoorTie
import Derived.WalkKit
import Derived.ProofKit
import Derived.OpenShut
import Derived.Deep.DeepHandedRow
import Derived.Lib.LaidTab
import Derived.Test.YtcgepgahgihojaaGreatDoorQ6
namespace Go.Proofs.YtcgepgahgihojaaGreatDoor.vprogs
open Go.ChangeShapes Go.WideShapes Go.ChangeAt Go.RowKit Go.St
open Go.ChangeMaps (open_string shut_string)
set_option linter.unusedVariables false
theorem walk (xs : List AV) (vs : Array Value) (W : World) (hA : O1 ap 3 xs [] = some (.ret (.bool true), [])) (hV : VRs (Gh.start W) xs vs.toList) (hL : laidMet Tryz.prog [("unicode/utf8.acceptRanges", Rows.laid_unicode_utf8_acceptRanges), ("unicode/utf8.first", Rows.laid_unicode_utf8_first)] W) : Calls Tryz.prog 3 vs W fun e W' => e = .returned (.bool true) ∧ Below W.heap.size W W' := by
 refine (top_ret (sound W) hA (globs hL) hV).mono fun e W' he=>?_
 obtain ⟨v,G,rfl,hv,hb⟩:=he
 exact ⟨by rw [hv.bool_inv],hb⟩
theorem bulkAll {H:Type} (l:List (DataW H)):Rows.uptoBulkAll l = (l.map Rows.uptoBulk).sum:=by
 induction l with
 | nil=>rfl
 | cons d r ih=>rw [Rows.uptoBulkAll,ih]; rfl
theorem bulkPos {H:Type} (d:DataW H):1 ≤ Rows.uptoBulk d:=by
 cases d with
 | lit l=>cases l <;> simp [Rows.uptoBulk]
 | nil=>simp [Rows.uptoBulk]
 | held h=>simp [Rows.uptoBulk]
 | _=>rw [Rows.uptoBulk]; omega
theorem bulkOf {H:Type} {n:Nat} {t:TypeId} {d:DataW H} {l:List AV} (h:avD ap n t d = some l):T1 l ≤ Rows.uptoBulk d:=
 avD_bulk Rows.uptoBulk Rows.uptoBulkAll bulkPos (fun s=>by rw [Rows.uptoBulk]) (fun a b=>by rw [Rows.uptoBulk]; omega) (fun a=>by rw [Rows.uptoBulk]; omega) bulkAll n t d l h
theorem laidOut:laidOutB Tryz.prog = true:=by kernel_rfl
theorem own:ownKnob Tryz.prog.godebug = none:=by kernel_rfl
set_option maxRecDepth 100000 in
theorem contract (H:Type) (enc:TypeId × Value→H) (W:World) (base:Nat) (args:Array Value) (ds gs:List (DataW H)) (before:List MemPlace)
  (hval:∀ (j:Nat) t v,Tryz.f3.params[j]? = some t→args[j]? = some v→Value.okWide Tryz.prog W .any base t v)
  (hW:DataW.Whole enc Tryz.prog Tryz.f3.params.toList Rows.verifyProgramsSpec.vars false W args.toList ds gs before) (hL:laidMetH Tryz.prog Rows.verifyProgramsUptoRow.laid W)
  (hk:Rows.uptoSmall H (ds ++ gs) = true)
  (hw:(DataW.weightsEach Tryz.prog (Tryz.f3.params.toList ++ (Rows.OpenSpec.upto Rows.verifyProgramsSpec).bare.plain.varTypes Tryz.prog) (ds ++ gs)).all (· ≤ reachBytes) = true) :
  Calls Tryz.prog 3 args W fun e W'=>∃ v,e = .returned v∧Rows.verifyProgramsSpec.post enc Tryz.prog Tryz.f3 false true false false W args v W':=by
 have hW':=hW
 obtain ⟨p,q,hA0,hV,rfl,hfz,hnd⟩:=hW
 have hA:DataW.TrodAll enc Tryz.prog W 0 (fun _=>true) true Tryz.f3.params.toList args.toList ds p:=hA0
 rw [Tryz.params3] at hA hval
 obtain ⟨v0,vs0,d0,ds0,p0,q0,hargs0,rfl,rfl,t0,r0⟩:=trodAll_cons hA
 obtain ⟨rfl,rfl,rfl⟩:=trodAll_nil r0
 obtain rfl:args = #[v0]:=by apply Array.ext'; simp [hargs0]
 obtain ⟨rfl,rfl⟩:=trodVars_none hV
 simp only [Tryz.params3,List.append_nil] at hw hk
 have hwt:=all_le hw
 have hk':=of_decide_eq_true hk
 simp only [Rows.uptoBulkAll] at hk'
 obtain ⟨c0,rfl⟩:∃ cs,v0 = .agg cs:=by
  have h:=hval 0 27 v0 rfl rfl
  unfold Value.okWide at h
  rw [Tryz.underlying27] at h
  obtain ⟨cs,h1,_⟩:=h
  exact ⟨cs,h1⟩
 have t0k:=t0
 obtain ⟨n0,hn0⟩:=t0k
 obtain ⟨l0,hl0,hv0,_⟩:=trod_av tabOk (ts:=[27,22,9,23,76,99,3,24,75,73,133,25,58,55,86,56]) (by kernel_rfl) n0 27 _ d0 p0 (by decide) hn0
 obtain ⟨m0,hm0,hs0⟩:=trod_shape tabOk (ts:=[27,22,9,23,76,99,3,24,75,73,133,25,58,55,86,56]) (by kernel_rfl) n0 27 _ d0 p0 (by decide) hn0 (fun x hx=>hwt x (a0A (i:=0) rfl rfl x hx))
 obtain rfl:l0 = m0:=Option.some.inj (hl0.symm.trans hm0)
 have hb0:=bulkOf hl0
 clear hA0
 simp only [List.append_nil] at hW'
 refine (walk [.agg l0] _ W (Go.Proofs.YtcgepgahgihojaaGreatDoor.programs_law hs0 (by omega)) (VRs.cons (VR.deepAgg hv0) (VRs.nil _)) hL).mono fun e W' ⟨he,hg⟩=>?_
 subst he
 exact ⟨_,rfl,post_far (pv:=[]) hW' (fun _ _ _=>trodAll_cons_mk (shut_bool Tryz.underlying4 _) trodAll_mk0)
  (trodAll_cons_mk (Below.trod laidOut (by kernel_rfl) (of_decide_eq_true (by kernel_rfl)) t0 hg (fun x hx=>hW'.lt x (by simp [hx]))) (trodAll_mk0)) (fun _ _=>rfl) hg⟩
noncomputable def laid1:List Value:=[.int .u8 128, .int .u8 191, .int .u8 160, .int .u8 191, .int .u8 128, .int .u8 159, .int .u8 144, .int .u8 191, .int .u8 128, .int .u8 143, .int .u8 0, .int .u8 0, .int .u8 0, .int .u8 0, .int .u8 0, .int .u8 0, .int .u8 0, .int .u8 0, .int .u8 0, .int .u8 0, .int .u8 0, .int .u8 0, .int .u8 0, .int .u8 0, .int .u8 0, .int .u8 0, .int .u8 0, .int .u8 0, .int .u8 0, .int .u8 0, .int .u8 0, .int .u8 0]
noncomputable def laid0:List Value:=Go.Pinned.utf8FirstZ.map fun (n:Nat)=>Value.int .u8 (n:Int)
def setLaid (g:Nat) (cs:List Value) (h:Array Obj):Array Obj:=h.modify g fun
 | .cells _ t frozen => .cells cs.toArray t frozen
 | o=>o
noncomputable def a3N (os:Os):World:={ World.holding Tryz.prog os ⟨#[],#[],[]⟩ with heap:=setLaid 0 laid0 (setLaid 1 laid1 ((World.holding Tryz.prog os ⟨#[],#[],[]⟩).heap)) }
set_option maxRecDepth 100000 in
theorem laid_met (os:Os):laidMet Tryz.prog Rows.verifyProgramsUptoRow.laid ((a3N os).forCall (fun _ _=>0) ⟨#[],#[.agg #[.slice none 0 0, .slice none 0 0, .slice none 0 0, .slice none 0 0]],[]⟩).memory:=
 laidMet_of_run' 8 (by kernel_rfl) (by kernel_rfl)
theorem reads (os:Os) {H:Type} (enc:TypeId × Value→H):∃ places,DataW.whole enc Tryz.prog ((a3N os).forCall (fun _ _=>0) ⟨#[],#[.agg #[.slice none 0 0, .slice none 0 0, .slice none 0 0, .slice none 0 0]],[]⟩).memory Tryz.f3.params.toList Rows.verifyProgramsSpec.vars false (#[.agg #[.slice none 0 0, .slice none 0 0, .slice none 0 0, .slice none 0 0]]:Array Value).toList 8 = some ([.agg [.nil, .nil, .nil, .nil]],[],places):=
 ⟨[],by kernel_rfl⟩
set_option maxRecDepth 100000 in
theorem lifted (os:Os) (started:os.Started) (H:Type) (enc:TypeId × Value→H) (F:Stop.Interp) :
  ReturnsInHanded {} Tryz.checked os 3 .any ((Rows.OpenSpec.upto Rows.verifyProgramsSpec).preRow enc Tryz.prog Tryz.f3 Rows.verifyProgramsUptoRow.domain false Rows.verifyProgramsUptoRow.laid) (((Rows.OpenSpec.upto Rows.verifyProgramsSpec).at F).post enc Tryz.prog Tryz.f3 false true false false):=by
 obtain ⟨places,hx⟩:=reads os enc
 refine returnsInHanded_of_row (C:=Tryz.checked) (s:=(Rows.OpenSpec.upto Rows.verifyProgramsSpec)) own started (by kernel_rfl) Tryz.func3
  (witness_row_at (enc:=enc) (C:=Tryz.checked) false (a3N os) #[.agg #[.slice none 0 0, .slice none 0 0, .slice none 0 0, .slice none 0 0]] rfl (by kernel_rfl) (by kernel_rfl) (by kernel_rfl)
   (OpenSpec.preRow_of_cond 8 hx (by kernel_rfl) (fun k hk=>by cases hk; kernel_rfl) (by kernel_rfl) (laid_met os))) ?_
 intro W base args ds gs before hval hW _ hk hw hL _ _
 exact contract H enc W base args ds gs before hval hW hL (hk _ rfl) hw
theorem said:Rows.VerifyProgramsUptoSaid:=
 OpenClaim.holds_of_cond 3 Tryz.f3 rfl rfl rfl rfl rfl rfl rfl ⟨rfl,rfl,rfl,rfl,rfl⟩ rfl rfl rfl rfl rfl (by kernel_rfl) Tryz.func3 (by kernel_rfl)
  (of_decide_eq_true (by kernel_rfl)) (by unfold Func.isWrapper; first | (rw [if_pos (by decide +kernel)]; kernel_rfl) | (rw [if_neg (by decide +kernel)]; exact ⟨rfl,rfl⟩))
  (fun os started H enc _ F=>by rw [OpenClaim.pre_eq_preRow]; exact lifted os started H enc F)
theorem plain (f : FuncId) (fn : Func) (hf : Tryz.pinned.checked.prog.funcNamed "stencil/stencillaw22.VerifyPrograms" = some f) (hfn : Tryz.pinned.checked.prog.funcs[f]? = some fn) :
  false = Tryz.pinned.checked.prog.looks []∧∀ (j:Nat) t,fn.params[j]? = some t→Tryz.pinned.checked.prog.wantsStandIn t = false:=by
 obtain rfl : f = 3 := Option.some.inj ((show Tryz.prog.funcNamed "stencil/stencillaw22.VerifyPrograms" = some 3 by kernel_rfl).symm.trans hf) |>.symm
 obtain rfl:fn = Tryz.f3:=(Option.some.inj (Tryz.func3.symm.trans hfn)).symm
 refine ⟨by kernel_rfl,fun j t ht=>?_⟩
 rw [Tryz.params3] at ht
 have hm:=Array.mem_of_getElem? ht
 simp only [List.mem_toArray,List.mem_cons,List.not_mem_nil,or_false] at hm
 subst hm
 exact (show Tryz.prog.wantsStandIn 27 = false by kernel_rfl)
theorem proved:Rows.VerifyProgramsUptoCardSaid:=
 Claim7.holds_tied_plain_at .later [] _ _ _ _ said (fun _ h=>by cases h) (by kernel_rfl) (fun _ h=>by cases h) verifyProgramsUpto_row_tie rfl ⟨rfl,rfl⟩ (by kernel_rfl) rfl plain (by kernel_rfl)
end Go.Proofs.YtcgepgahgihojaaGreatDoor.vprogs
