/- Every text and attribute of package html is as the document writes it, and joined texts are written one behind the other: whatever the two texts, as far as they are together of bulk at most 1048576. -/
import Derived.Test.YtbkfmhahbcodkaaH
import Derived.Test.YtbkfmhahbcodkaaRows
import Derived.WalkKit
import Derived.ProofKit
import Derived.OpenShut
import Derived.JoinedCond
namespace Go.Proofs.Ytbkfmhahbcodkaa.texts
open Go.ChangeShapes Go.WideShapes Go.ChangeAt Go.RowKit Go.St
open Go.ChangeMaps (open_string shut_string)
set_option linter.unusedVariables false

theorem all (s t : ByteArray) (hs : s.size + t.size ≤ 8388608) : CallR ap 3 [.str s, .str t] [] = some (.ret (.bool true), []) := by
  have h1 : s.size ≤ 8388608 := by omega
  have h2 : t.size ≤ 8388608 := by omega
  have h3 : (s ++ t).size ≤ 8388608 := by rw [ByteArray.size_append]; exact hs
  have hr : ByteArray.size s + ByteArray.size t ≤ 9223372036854775807 := by omega
  have hj : ∀ q, mk (esc q (s ++ t).data.toList) = mk (esc q s.data.toList) ++ mk (esc q t.data.toList) := fun q => by
    rw [mk_app, ← esc_app]
    simp
  have hsz : ∀ q, ByteArray.size (mk (esc q s.data.toList)) + ByteArray.size (mk (esc q t.data.toList)) ≤ 9223372036854775807 := fun q => by
    have a := esc_len q s.data.toList
    have b := esc_len q t.data.toList
    rw [← size_list] at a b
    rw [mk_size, mk_size]
    omega
  rw [stencillaw4_HtmlTexts.call, stencillaw4_HtmlTexts.b_eq]
  simp only [text s h1, textRef s h1, attr s h1, attrRef s h1, text t h2, attr t h2, text _ h3, attr _ h3, Option.bind_some, Out.on, asS, decide_true, cond_true, hr, if_true, hj, hsz, awake, pickK, asB]
  rw [gc_keep rfl rfl (Keeps.refl _ _)]

theorem short {H : Type} {s t : ByteArray} (hk : Rows.uptoSmall H [.lit (.string s.data.toList), .lit (.string t.data.toList)] = true) : s.size + t.size ≤ 8388608 := by
  have h : Rows.uptoBulkAll [DataW.lit (H := H) (.string s.data.toList), .lit (.string t.data.toList)] ≤ 1048576 := of_decide_eq_true hk
  simp only [Rows.uptoBulkAll, Rows.uptoBulk] at h
  have e : ∀ s : ByteArray, s.data.toList.length = s.size := fun s => (size_list s).symm
  rw [e, e] at h
  omega

theorem walk (s t : ByteArray) (W : World) (hs : s.size + t.size ≤ 8388608) : Calls Try.prog 3 #[.string s, .string t] W fun e W' => e = .returned (.bool true) ∧ Below W.heap.size W W' := by
  refine (top_ret (sound W) (all s t hs) (GlobsR.nil rfl _) (VRs.cons (.str s) (VRs.one (.str t)))).mono fun e W' he => ?_
  obtain ⟨v, G, rfl, hv, hb⟩ := he
  exact ⟨by rw [hv.bool_inv], hb⟩

theorem own : ownKnob Try.prog.godebug = none := by kernel_rfl

theorem contract (H : Type) (enc : TypeId × Value → H) (W : World) (base : Nat) (args : Array Value) (ds gs : List (DataW H)) (before : List MemPlace)
    (hval : ∀ (j : Nat) t v, Try.f3.params[j]? = some t → args[j]? = some v → Value.okWide Try.prog W .any base t v)
    (hW : DataW.Whole enc Try.prog Try.f3.params.toList Rows.htmlTextsSpec.vars false W args.toList ds gs before) (hk : Rows.uptoSmall H (ds ++ gs) = true) :
    Calls Try.prog 3 args W fun e W' => ∃ v, e = .returned v ∧ Rows.htmlTextsSpec.post enc Try.prog Try.f3 false true false false W args v W' := by
  have hW' := hW
  obtain ⟨p, q, hA0, hV, rfl, hfz, hnd⟩ := hW
  have hA : DataW.TrodAll enc Try.prog W 0 (fun _ => true) true Try.f3.params.toList args.toList ds p := hA0
  rw [Try.params3] at hA hval
  obtain ⟨v0, vs0, d0, ds0, p0, q0, hargs, rfl, rfl, h0, r0⟩ := trodAll_cons hA
  obtain ⟨v1, vs1, d1, ds1, p1, q1, hargs1, rfl, rfl, h1, r1⟩ := trodAll_cons r0
  obtain ⟨rfl, rfl, rfl⟩ := trodAll_nil r1
  obtain rfl : args = #[v0, v1] := by apply Array.ext'; simp [hargs, hargs1]
  obtain ⟨rfl, rfl⟩ := trodVars_none hV
  obtain ⟨s, rfl, rfl, rfl, hmax⟩ := open_string Try.underlying9 (hval 0 9 v0 rfl rfl) h0
  obtain ⟨t, rfl, rfl, rfl, hmax1⟩ := open_string Try.underlying9 (hval 1 9 v1 rfl rfl) h1
  clear hA0
  simp only [List.append_nil] at hW' hk
  refine (walk s t W (short hk)).mono fun e W' ⟨he, hg⟩ => ?_
  subst he
  exact ⟨_, rfl, post_below (pa := []) (pv := []) hW' (fun _ _ _ => trodAll_cons_mk (shut_bool Try.underlying4 _) trodAll_mk0)
    (fun _ _ => trodAll_cons_mk (shut_string Try.underlying9 hmax) (trodAll_cons_mk (shut_string Try.underlying9 hmax1) trodAll_mk0)) (fun _ _ => rfl) hg⟩

set_option maxRecDepth 100000 in
theorem lifted (os : Os) (started : os.Started) (H : Type) (enc : TypeId × Value → H) (F : Stop.Interp) :
    ReturnsInHanded {} Try.checked os 3 .any ((Rows.OpenSpec.upto Rows.htmlTextsSpec).pre6 enc Try.prog Try.f3 Rows.htmlTextsUptoRow.domain false) (((Rows.OpenSpec.upto Rows.htmlTextsSpec).at F).post enc Try.prog Try.f3 false true false false) := by
  refine returnsInHanded_of_cond (C := Try.checked) (s := Rows.OpenSpec.upto Rows.htmlTextsSpec) (k := Rows.uptoSmall) rfl own started (by kernel_rfl) Try.func3
    (OpenSpec.witness (enc := enc) (C := Try.checked) (s := Rows.OpenSpec.upto Rows.htmlTextsSpec) (k := Rows.uptoSmall) rfl false ⟨#[], #[.string .empty, .string .empty], []⟩ 8 (by kernel_rfl) (by kernel_rfl) (by kernel_rfl)
      (x := ([.lit (.string []), .lit (.string [])], [], [])) (by kernel_rfl) rfl (by kernel_rfl)) ?_
  intro W base args ds gs before hval hW _ hk _
  exact contract H enc W base args ds gs before hval hW hk

theorem proved : Rows.HtmlTextsUptoSaid :=
  OpenClaim.holds_of_cond 3 Try.f3 rfl rfl rfl rfl rfl rfl rfl ⟨rfl, rfl, rfl, rfl, rfl⟩ rfl rfl rfl rfl rfl (by kernel_rfl) Try.func3 (by kernel_rfl)
    (of_decide_eq_true (by kernel_rfl)) (by unfold Func.isWrapper; first | (rw [if_pos (by decide +kernel)]; kernel_rfl) | (rw [if_neg (by decide +kernel)]; exact ⟨rfl, rfl⟩))
    (fun os started H enc _ F => lifted os started H enc F)
end Go.Proofs.Ytbkfmhahbcodkaa.texts
