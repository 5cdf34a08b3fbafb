/- Regions whose order is set. -/
import Derived.Test.YtnjpbbiolngfkaaDoorStS11
namespace Go.St
open Go.RowKit
set_option linter.unusedVariables false
set_option linter.unusedSimpArgs false

section
variable {P : Program} {A : AProg} {w0 : World} {G : Gh} {st st' : Sto} {w : World} {R : Type}

theorem ActR.at_ {env : List AV} {dfr : List ADef} {a : Act} (h : ActR G env dfr a) {t : Nat} {x : AV} (hx : env[t]? = some x) : ∃ v, a.tmps[t]? = some v ∧ VR G x v := by
  obtain ⟨v, h1, h2⟩ := h.vals.get hx
  exact ⟨v, by simpa using h1, h2⟩

theorem ActR.told {env : List AV} {dfr : List ADef} {a : Act} (h : ActR G env dfr a) {t : Nat} {b : Bool} (hx : env[t]? = some (.bool b)) : ActR G (env.set t (.bool b)) dfr a := by
  obtain ⟨v, h1, h2⟩ := h.at_ hx
  refine ⟨⟨by simpa using h.vals.len, fun j x y hx' hy => ?_⟩, h.dfr⟩
  by_cases hj : t = j
  · subst hj
    rw [List.getElem?_set_self (List.getElem?_eq_some_iff.1 hx).1] at hx'
    cases hx'
    simp only [Array.getElem?_toList, h1, Option.some.injEq] at hy
    subst hy
    exact h2
  · rw [List.getElem?_set_ne hj] at hx'
    exact h.vals.at_ j x y hx' hy

theorem set_same' {α : Type} {l : List α} {t : Nat} {a : α} (h : l[t]? = some a) : l.set t a = l := by
  apply List.ext_getElem?
  intro i
  by_cases hi : t = i
  · subst hi
    rw [List.getElem?_set_self (List.getElem?_eq_some_iff.1 h).1, h]
  · rw [List.getElem?_set_ne hi]

theorem guard_sound {ops : Array Oper} {o : Oper} {env : List AV} {dfr : List ADef} {a : Act} (hA : ActR G env dfr a) {yes no : List AV → Option R} {r : R} (h : guardK ops o env yes no = some r) :
    (Region.wanted o (yielded ops a.tmps) = true ∧ ∃ env', ActR G env' dfr a ∧ yes env' = some r) ∨ (Region.wanted o (yielded ops a.tmps) = false ∧ ∃ env', ActR G env' dfr a ∧ no env' = some r) := by
  unfold guardK at h
  unfold Region.wanted
  cases hg : o.guard with
  | none => simp only [hg] at h; exact .inl ⟨rfl, env, hA, h⟩
  | some p =>
    obtain ⟨j, want⟩ := p
    simp only [hg] at h ⊢
    unfold yielded
    cases hd : (ops[j]?).bind (·.dst) with
    | none => simp only [hd] at h; exact .inr ⟨by simp, env, hA, h⟩
    | some t =>
      simp only [hd, Option.bind_some] at h ⊢
      cases he : env[t]? with
      | none =>
        simp only [he] at h
        have : a.tmps[t]? = none := by
          have h1 := List.getElem?_eq_none_iff.1 he
          have h2 : env.length = a.tmps.size := by simpa using hA.vals.len
          rw [Array.getElem?_eq_none_iff]
          exact h2 ▸ h1
        rw [this]
        exact .inr ⟨by simp, env, hA, h⟩
      | some x =>
        obtain ⟨v, h1, h2⟩ := hA.at_ he
        simp only [he] at h
        rw [h1]
        obtain ⟨g, hg, h⟩ := bind_some h
        unfold guardT at hg
        split at hg
        · rename_i b
          cases hg
          simp only [gOn] at h
          have hv := h2.bool_inv
          subst hv
          have hA' := hA.told he
          cases b <;> cases want <;> simp only [cond_true, cond_false] at h
          · exact .inl ⟨by simp, _, hA', h⟩
          · exact .inr ⟨by simp, _, hA', h⟩
          · exact .inr ⟨by simp, _, hA', h⟩
          · exact .inl ⟨by simp, _, hA', h⟩
        · cases hg
          simp only [gOn] at h
          rw [set_same' he] at h
          cases h2
          exact .inr ⟨by simp, env, hA, h⟩
        · cases hg

theorem doOp_noDefer {C : Call} {wr : Bool} {ev : Operand → AV} {o : Oper} {st : Sto} {k : Out → Sto → Option R} {r : R} (h : doOp A C wr ev o st k = some r) : ∀ c, o.op ≠ .defer c := by
  intro c hc
  unfold doOp at h
  rw [hc] at h
  cases h

/-- What an operation comes to. -/
theorem upon_sound {ro : Option Nat} {o : Oper} {a : Act} {dfr : List ADef} {env : List AV} {out : Out} {s : Sto} {next : Act → World → Prop} {Q : Exit → Act → World → Prop} (hA : ActR G env dfr a) (hd : ∀ c, o.op ≠ .defer c)
    (hop : OpOK P A w0 G out s ((execOp a.eval o).run P w))
    (hret : ∀ v x G' w', out = .ret x → G.le G' → Rel A.bld A.u8 w0 G' s w' → VR G' x v → next (a.put o.dst v) w')
    (hpan : ∀ v x G' w', out = .pan x → G.le G' → Rel A.bld A.u8 w0 G' s w' → VR G' x v → Q (.panic [{ v, recovered := false }]) a w') : o.wpIn (WF ro) 0 P a w next Q := by
  refine ⟨fun _ _ => trivial, ?_⟩
  rw [Oper.semAt_eq _ _ _ hd]
  generalize hres : (execOp a.eval o).run P w = res at hop
  have post : ∀ e w'', RetOK A w0 G out s e w'' → (match e, w'' with
      | .returned v, w'' => next (a.put o.dst v) w''
      | .panicked chain, w'' => Q (.panic chain) a w''
      | .outgrown, _ => LetsOut Q) := by
    intro e w'' he
    cases e with
    | returned v =>
      obtain ⟨G', k1, k2, x, hx, k3⟩ := he
      exact hret v x G' w'' hx k1 k2 k3
    | panicked ch =>
      obtain ⟨G', k1, k2, x, v, hx, rfl, k3⟩ := he
      exact hpan v x G' w'' hx k1 k2 k3
    | outgrown => exact he.elim
  cases res with
  | ok n w' =>
    cases n <;> simp only [OpOK] at hop
    case value v =>
      obtain ⟨G', k1, k2, x, hx, k3⟩ := hop
      exact hret v x G' w' hx k1 k2 k3
    case skip =>
      obtain ⟨G', k1, k2, x, hx, k3⟩ := hop
      exact hret undef x G' w' hx k1 k2 k3
    case enter f args =>
      exact ⟨WF.deep, WF.calls (Calls.mono hop post)⟩
    case round l f tmps assign body =>
      exact ⟨WF.deep, RoundIn.mono (F := WF ro) (show RoundIn (WF ro) 0 P l f tmps assign body w' _ from hop) post⟩
  | halt hh w' =>
    cases hh <;> simp only [OpOK] at hop
    case panic v =>
      obtain ⟨G', k1, k2, x, v', hx, hv, k3⟩ := hop
      cases hv
      exact hpan _ x G' w' hx k1 k2 k3

theorem runOps_sound (hS : Sound P A w0) {C : Call} (hC : CallOk P A w0 C) (hI : CallIn A C) {nt : Note} {rid : Nat} {ops : Array Oper} {kn : List AV → Sto → Option R} {kp : AV → Sto → Option R} {r : R} {G0 : Gh} (hGl : GlobsR A G0) (ro : Option Nat) (dfr : List ADef) :
    ∀ (l : List Oper) (i : Nat), ops.toList.drop i = l → ∀ (env : List AV) (st : Sto) (G : Gh) (a : Act) (w : World), G0.le G → Rel A.bld A.u8 w0 G st w → ActR G env dfr a → runOps A C nt rid ops kn kp l i env st = some r →
      wpOpsIn (WF ro) 0 P ops (RQ A w0 G0 dfr kn kp r) (List.range' i l.length) a w := by
  intro l
  induction l with
  | nil =>
    intro i hi env st G a w hG hR hA h
    exact ⟨env, st, G, hG, hR, hA, h⟩
  | cons o l ih =>
    intro i hi env st G a w hG hR hA h
    have hoi : ops[i]? = some o := by
      have h1 : (ops.toList.drop i)[0]? = some o := by rw [hi]; rfl
      simpa using h1
    have hi' : ops.toList.drop (i + 1) = l := by rw [← List.drop_drop, hi]; rfl
    simp only [runOps] at h
    simp only [List.length_cons, List.range'_succ, wpOpsIn, hoi]
    rcases guard_sound hA h with ⟨hw, env', hA', h⟩ | ⟨hw, env', hA', h⟩
    · rw [if_pos hw]
      have hnd := doOp_noDefer h
      obtain ⟨out, s, h, hop⟩ := doOp_sound hS hC hI (hGl.mono hG) hR (evA_VR hA' (hGl.mono hG)) h
      refine upon_sound hA' hnd hop (fun v x G' w' hx k1 k2 k3 => ?_) (fun v x G' w' hx k1 k2 k3 => ?_)
      · subst hx
        simp only [Out.on] at h
        exact ih (i + 1) hi' _ _ G' _ w' (hG.trans k1) k2 ((hA'.mono k1).put _ k3) h
      · subst hx
        simp only [Out.on] at h
        exact ⟨x, v, s, G', rfl, hG.trans k1, k2, k3, hA'.dfr.mono k1, h⟩
    · rw [if_neg (by simp [hw])]
      exact ⟨fun _ _ => trivial, ih (i + 1) hi' _ _ G _ w hG hR (hA'.put _ (undef_VR G)) h⟩

end

end Go.St
