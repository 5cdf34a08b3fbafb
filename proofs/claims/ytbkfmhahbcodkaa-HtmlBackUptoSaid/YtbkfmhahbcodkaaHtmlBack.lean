/- Plain of Text and of Attr gives the text back, and what is escaped has none of the bytes that mean something: whatever the text, as far as it is of bulk at most 1048576. -/
import Derived.Test.YtbkfmhahbcodkaaB
import Derived.Test.YtbkfmhahbcodkaaRows
import Derived.WalkKit
import Derived.ProofKit
import Derived.OpenShut
import Derived.JoinedCond
namespace Go.Proofs.Ytbkfmhahbcodkaa.back
open Go.ChangeShapes Go.WideShapes Go.ChangeAt Go.RowKit Go.St
open Go.ChangeMaps (open_string shut_string)
set_option linter.unusedVariables false
set_option linter.unusedSimpArgs false

theorem loop (x : ByteArray) (hq : ∀ b ∈ x.data.toList, quiet b) (hs : x.size ≤ 8388608) : ∀ (k j : Nat), j + k = x.size → ∀ st : Sto, stencillaw4_HtmlBack.p1111110100 (.str x) (j : Int) st = some ⟨.ret (.bool true), none, st⟩ := by
  intro k
  induction k with
  | zero =>
    intro j hj st
    have : ¬ ((j : Int) < ((x.size : Nat) : Int)) := by omega
    rw [stencillaw4_HtmlBack.p1111110100_eq]
    simp only [asS, Option.bind_some, this, decide_false, cond_false]
  | succ k ih =>
    intro j hj st
    have hlt : j < x.size := by omega
    have hlt' : ((j : Int) < ((x.size : Nat) : Int)) := by omega
    obtain ⟨c, hc, hb, _⟩ := byt_at hlt
    obtain ⟨h1, h2, h3, h4⟩ := hq c (List.mem_of_getElem? hc)
    have ne : ∀ k : UInt8, c ≠ k → ¬ (((c.toNat : Nat) : Int) = ((k.toNat : Nat) : Int)) := fun k hk e => hk (UInt8.toNat_inj.1 (by omega))
    have n1 : ¬ (((c.toNat : Nat) : Int) = 60) := ne 60 h1
    have n2 : ¬ (((c.toNat : Nat) : Int) = 62) := ne 62 h2
    have n3 : ¬ (((c.toNat : Nat) : Int) = 34) := ne 34 h3
    have n4 : ¬ (((c.toNat : Nat) : Int) = 123) := ne 123 h4
    have hw : IntKind.wrap .i64 ((j : Int) + 1) = ((j + 1 : Nat) : Int) := by rw [wrap64 (by omega) (by omega)]; simp
    rw [stencillaw4_HtmlBack.p1111110100_eq]
    simp only [asS, Option.bind_some, hlt', decide_true, cond_true, idx_nat hlt, hb, n1, n2, n3, n4, decide_false, cond_false]
    rw [stencillaw4_HtmlBack.p11111101001001_eq]
    simp only [cond_false, hw]
    exact ih (j + 1) (by omega) st

theorem all (s : ByteArray) (hs : s.size ≤ 1048576) : CallR ap 5 [.str s] [] = some (.ret (.bool true), []) := by
  have h1 : s.size ≤ 8388608 := by omega
  have hx : (mk (esc true s.data.toList)).size ≤ 8388608 := by
    rw [mk_size]
    have := esc_len true s.data.toList
    rw [← size_list] at this
    omega
  have hl := loop (mk (esc true s.data.toList)) (by rw [mk_list]; exact esc_quiet _) hx _ 0 (Nat.zero_add _) []
  simp only [Int.natCast_zero] at hl
  rw [stencillaw4_HtmlBack.call, stencillaw4_HtmlBack.b_eq]
  simp only [awake, text s h1, attr s h1, back _ s _ hs, Option.bind_some, Out.on, asB, Bool.not_true, cond_false, ext, List.getElem?_cons_zero, List.getElem?_cons_succ, asS, asI, if_true, decide_true, num]
  rw [stencillaw4_HtmlBack.p111101_eq]
  simp only [cond_false, attr s h1, Option.bind_some, Out.on, hl]
  rw [gc_keep rfl rfl (Keeps.refl _ _)]

theorem short {H : Type} {s : ByteArray} (hk : Rows.uptoSmall H [.lit (.string s.data.toList)] = true) : s.size ≤ 1048576 := by
  have h : Rows.uptoBulkAll [DataW.lit (H := H) (.string s.data.toList)] ≤ 1048576 := of_decide_eq_true hk
  simp only [Rows.uptoBulkAll, Rows.uptoBulk] at h
  rw [← size_list] at h
  omega

theorem walk (s : ByteArray) (W : World) (hs : s.size ≤ 1048576) : Calls Try.prog 5 #[.string s] W fun e W' => e = .returned (.bool true) ∧ Below W.heap.size W W' := by
  refine (top_ret (sound W) (all s hs) (GlobsR.nil rfl _) (VRs.one (.str s))).mono fun e W' he => ?_
  obtain ⟨v, G, rfl, hv, hb⟩ := he
  exact ⟨by rw [hv.bool_inv], hb⟩

theorem own : ownKnob Try.prog.godebug = none := by kernel_rfl

theorem contract (H : Type) (enc : TypeId × Value → H) (W : World) (base : Nat) (args : Array Value) (ds gs : List (DataW H)) (before : List MemPlace)
    (hval : ∀ (j : Nat) t v, Try.f5.params[j]? = some t → args[j]? = some v → Value.okWide Try.prog W .any base t v)
    (hW : DataW.Whole enc Try.prog Try.f5.params.toList Rows.htmlBackSpec.vars false W args.toList ds gs before) (hk : Rows.uptoSmall H (ds ++ gs) = true) :
    Calls Try.prog 5 args W fun e W' => ∃ v, e = .returned v ∧ Rows.htmlBackSpec.post enc Try.prog Try.f5 false true false false W args v W' := by
  have hW' := hW
  obtain ⟨p, q, hA0, hV, rfl, hfz, hnd⟩ := hW
  have hA : DataW.TrodAll enc Try.prog W 0 (fun _ => true) true Try.f5.params.toList args.toList ds p := hA0
  rw [Try.params5] at hA hval
  obtain ⟨v0, vs0, d0, ds0, p0, q0, hargs, rfl, rfl, h0, r0⟩ := trodAll_cons hA
  obtain ⟨rfl, rfl, rfl⟩ := trodAll_nil r0
  obtain rfl : args = #[v0] := by apply Array.ext'; simp [hargs]
  obtain ⟨rfl, rfl⟩ := trodVars_none hV
  obtain ⟨s, rfl, rfl, rfl, hmax⟩ := open_string Try.underlying9 (hval 0 9 v0 rfl rfl) h0
  clear hA0
  simp only [List.append_nil] at hW' hk
  refine (walk s W (short hk)).mono fun e W' ⟨he, hg⟩ => ?_
  subst he
  exact ⟨_, rfl, post_below (pa := []) (pv := []) hW' (fun _ _ _ => trodAll_cons_mk (shut_bool Try.underlying4 _) trodAll_mk0)
    (fun _ _ => trodAll_cons_mk (shut_string Try.underlying9 hmax) trodAll_mk0) (fun _ _ => rfl) hg⟩

set_option maxRecDepth 100000 in
theorem lifted (os : Os) (started : os.Started) (H : Type) (enc : TypeId × Value → H) (F : Stop.Interp) :
    ReturnsInHanded {} Try.checked os 5 .any ((Rows.OpenSpec.upto Rows.htmlBackSpec).pre6 enc Try.prog Try.f5 Rows.htmlBackUptoRow.domain false) (((Rows.OpenSpec.upto Rows.htmlBackSpec).at F).post enc Try.prog Try.f5 false true false false) := by
  refine returnsInHanded_of_cond (C := Try.checked) (s := Rows.OpenSpec.upto Rows.htmlBackSpec) (k := Rows.uptoSmall) rfl own started (by kernel_rfl) Try.func5
    (OpenSpec.witness (enc := enc) (C := Try.checked) (s := Rows.OpenSpec.upto Rows.htmlBackSpec) (k := Rows.uptoSmall) rfl false ⟨#[], #[.string .empty], []⟩ 8 (by kernel_rfl) (by kernel_rfl) (by kernel_rfl)
      (x := ([.lit (.string [])], [], [])) (by kernel_rfl) rfl (by kernel_rfl)) ?_
  intro W base args ds gs before hval hW _ hk _
  exact contract H enc W base args ds gs before hval hW hk

theorem proved : Rows.HtmlBackUptoSaid :=
  OpenClaim.holds_of_cond 5 Try.f5 rfl rfl rfl rfl rfl rfl rfl ⟨rfl, rfl, rfl, rfl, rfl⟩ rfl rfl rfl rfl rfl (by kernel_rfl) Try.func5 (by kernel_rfl)
    (of_decide_eq_true (by kernel_rfl)) (by unfold Func.isWrapper; first | (rw [if_pos (by decide +kernel)]; kernel_rfl) | (rw [if_neg (by decide +kernel)]; exact ⟨rfl, rfl⟩))
    (fun os started H enc _ F => lifted os started H enc F)
end Go.Proofs.Ytbkfmhahbcodkaa.back
