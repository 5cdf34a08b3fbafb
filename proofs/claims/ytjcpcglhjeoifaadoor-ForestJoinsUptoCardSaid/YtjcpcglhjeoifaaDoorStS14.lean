/- Steps, and whole calls. -/
import Derived.Test.YtjcpcglhjeoifaaDoorStS13
import Derived.Test.YtjcpcglhjeoifaaDoorStD4
import Derived.Laws.Sem
namespace Go.St
open Go.RowKit
set_option linter.unusedVariables false
set_option linter.unusedSimpArgs false

def AItem.item : AItem → Item
  | .code _ c => .code c
  | .blk id => .inBlock id
  | .lp _ b => .inLoop b
  | .scope _ b => .inScope b

theorem exitA_item {id : Nat} : ∀ {t t' : List AItem}, exitA id t = some t' → exitTo id (t.map AItem.item) = some (t'.map AItem.item) := by
  intro t
  induction t with
  | nil => intro t' h; simp [exitA] at h
  | cons x t ih =>
    intro t' h
    cases x with
    | blk i =>
      simp only [exitA, List.map_cons, AItem.item, exitTo] at h ⊢
      cases hi : i == id <;> simp only [hi, cond_true, cond_false, Bool.false_eq_true, if_true, if_false] at h ⊢
      · exact ih h
      · cases h; rfl
    | code p c => exact ih h
    | lp p b => exact ih h
    | scope p b => exact ih h

theorem gotoA_item {l : Nat} : ∀ {t t' : List AItem}, gotoA l t = some t' → gotoIn l (t.map AItem.item) = some (t'.map AItem.item) := by
  intro t
  induction t with
  | nil => intro t' h; simp [gotoA] at h
  | cons x t ih =>
    intro t' h
    cases x with
    | scope p b =>
      simp only [gotoA, List.map_cons, AItem.item, gotoIn] at h ⊢
      cases hb : findLabel b l with
      | none => simp only [hb] at h ⊢; exact ih h
      | some rest => simp only [hb] at h ⊢; cases h; rfl
    | code p c => exact ih h
    | lp p b => exact ih h
    | blk i => exact ih h

theorem step_inScope {P : Program} {b : Frame} {a : Act} {k : List Item} {cs : List Frame} {w : World} {c : Code} : step P (lone (b.at a (.inScope c :: k)) cs w) = .next (lone (b.at a k) cs w) :=
  step_lone_go (by simp [stepG, stepG.exec, Frame.at])
theorem step_scope {P : Program} {b : Frame} {a : Act} {k : List Item} {cs : List Frame} {w : World} {c : Code} : step P (lone (b.at a (.code (.scope c) :: k)) cs w) = .next (lone (b.at a (.code c :: .inScope c :: k)) cs w) :=
  step_lone_go (by simp [stepG, stepG.exec, Frame.at])

section
variable {P : Program} {A : AProg} {w0 : World} {G : Gh} {st st' : Sto} {w : World} {R : Type}

theorem keep_VRs (l : List Nat) : ∀ (i : Nat) {as : List AV} {vs : List Value}, VRs G as vs → VRs G (keep l i as) vs := by
  intro i as
  induction as generalizing i with
  | nil => intro vs h; exact h
  | cons x as ih =>
    intro vs h
    obtain ⟨v, vs, rfl, h1, h2⟩ := h.head
    refine VRs.cons ?_ (ih (i + 1) h2)
    cases l.contains i
    · exact .any v
    · exact h1

theorem keepAt_R {nt : Note} {p : Path} {env : List AV} {a : Act} (h : ActR G env a) : ActR G (nt.keepAt p env) a := by
  unfold Note.keepAt
  split
  · exact ⟨keep_VRs _ 0 h.vals, h.dfr⟩
  · exact h

theorem r_load (hT : TabOk P A) (hR : Rel A.bld A.u8 w0 G st w) {t : TypeId} {td : TD} (ht : assoc t A.tab = some td) {p v : AV} {pv : Value} (h : ld td.isAgg td.size st p = some v) (hp : VR G p pv) :
    ∃ b o v', pv = .pointer (some ⟨b, o, none⟩) ∧ (loadVar t ⟨b, o, none⟩).run P w = .ok v' w ∧ VR G v v' := by
  obtain ⟨i, d, hi, hd, hs, _, hk, _⟩ := (hT t td ht).ok
  unfold ld at h
  cases hc : ldCells st p td.size with
  | none => simp [hc] at h
  | some cs =>
    simp only [hc, Option.bind_some] at h
    obtain ⟨b, o, vs, rfl, hv, hn, hcell⟩ := ldCells_sound hR hc hp
    have hcells : (loadCells ⟨b, o, none⟩ td.size).run P w = .ok vs.toArray w := by
      rw [← hn]
      exact run_loadCells_list w ⟨b, o, none⟩ vs fun j v hj => by rw [add_lit]; exact hcell j v hj
    unfold pack at h
    cases hag : td.isAgg with
    | true =>
      simp only [hag, if_true] at h
      cases h
      refine ⟨b, o, .agg vs.toArray, rfl, ?_, (.agg cs vs.toArray (by simpa using hv.len) fun j a v ha hv' => hv.at_ j a v ha (by simpa using hv'))⟩
      simp [loadVar, r_isAgg hd hk, hag, r_size hi, hs, hcells]
    | false =>
      simp only [hag, Bool.false_eq_true, if_false] at h
      split at h
      · rename_i c
        cases h
        obtain ⟨v', ws, rfl, h1, h2⟩ := hv.head
        have hw : w.cell? ⟨b, o, none⟩ = some v' := by have := hcell 0 v' rfl; simpa using this
        refine ⟨b, o, v', rfl, ?_, h1⟩
        simp [loadVar, r_isAgg hd hk, hag, hw]
      · cases h

theorem evT {env : List AV} {a : Act} (hA : ActR G env a) (t : Tmp) : VR G (env.getD t (.tup [])) (a.tmps.getD t undef) :=
  evA_VR (A := ⟨[], [], [], [], [], [], 0, 0, false, []⟩) hA (fun g cs hg => by cases hg) (.tmp t)

def resS (tmps : Array Value) : ResultVar → Sem Value
  | .tmp t => Pure.pure (tmps.getD t undef)
  | .cell c t => do loadVar t (← asAddr (tmps.getD c undef))
theorem results_eq (fn : Func) (tmps : Array Value) : results fn tmps = (do
    let vs ← fn.results.mapM (resS tmps)
    Pure.pure (if h : vs.size = 1 then vs[0] else .tuple vs)) := rfl

theorem resA_sound (hT : TabOk P A) (hR : Rel A.bld A.u8 w0 G st w) {env : List AV} {a : Act} (hA : ActR G env a) : ∀ {rs : List ResultVar} {k : List AV → Option Res} {r : Res}, resA A env st rs k = some r →
    ∃ xs ys, k xs = some r ∧ (rs.mapM (resS a.tmps) : Sem (List Value)).run P w = .ok ys w ∧ VRs G xs ys := by
  intro rs
  induction rs with
  | nil => intro k r h; exact ⟨[], [], h, by simp, VRs.nil G⟩
  | cons x rs ih =>
    intro k r h
    cases x with
    | tmp t =>
      simp only [resA] at h
      obtain ⟨xs, ys, h1, h2, h3⟩ := ih h
      refine ⟨_ :: xs, _ :: ys, h1, ?_, VRs.cons (evT hA t) h3⟩
      simp only [List.mapM_cons, resS, Sem.run_bind, Sem.run_pure, Result.andThen_ok, h2]
    | cell c t =>
      simp only [resA] at h
      obtain ⟨td, ht, h⟩ := bind_some h
      obtain ⟨v, hv, h⟩ := bind_some h
      obtain ⟨b, o, v', k1, k2, k3⟩ := r_load hT hR ht hv (evT hA c)
      obtain ⟨xs, ys, h1, h2, h3⟩ := ih h
      refine ⟨_ :: xs, _ :: ys, h1, ?_, VRs.cons k3 h3⟩
      have ka : (asAddr (a.tmps.getD c undef)).run P w = .ok ⟨b, o, none⟩ w := by rw [k1]; rfl
      simp only [List.mapM_cons, resS, Sem.run_bind, Sem.run_pure, Result.andThen_ok, h2, ka, k2]

theorem tupA_VR {xs : List AV} {ys : List Value} (h : VRs G xs ys) : VR G (tupA xs) (if h : ys.toArray.size = 1 then ys.toArray[0] else .tuple ys.toArray) := by
  cases xs with
  | nil =>
    have : ys = [] := List.eq_nil_of_length_eq_zero (by rw [← h.len]; rfl)
    subst this
    exact undef_VR G
  | cons x xs =>
    obtain ⟨y, ys, rfl, h1, h2⟩ := h.head
    cases xs with
    | nil =>
      have : ys = [] := List.eq_nil_of_length_eq_zero (by rw [← h2.len]; rfl)
      subst this
      exact h1
    | cons x' xs =>
      obtain ⟨y', ys, rfl, _, _⟩ := h2.head
      exact VRs.tup (vs := (y :: y' :: ys).toArray) (by simpa using h)

/-- A frame's end. -/
def Ends (P : Program) (A : AProg) (w0 : World) (G0 : Gh) (r : Res) (m : Machine) (f : FuncId) (cs : List Frame) : Prop :=
  ∃ e w' fr, RetOK A w0 G0 r.out r.st e w' ∧ Steps P m (lone fr cs w') ∧ fr.fn = f ∧ fr.leaving P w' e

theorem Ends.of_steps {G0 : Gh} {r : Res} {m m' : Machine} {f : FuncId} {cs : List Frame} (h : Steps P m m') (h' : Ends P A w0 G0 r m' f cs) : Ends P A w0 G0 r m f cs := by
  obtain ⟨e, w', fr, h1, h2, h3⟩ := h'
  exact ⟨e, w', fr, h1, h.trans h2, h3⟩

theorem finA_sound (hS : Sound P A w0) {G0 : Gh} {c : Cfg} {r : Res} (h : finA A c = some r) (hG : G0.le G) (hR : Rel A.bld A.u8 w0 G c.st w) {a : Act} (hA : ActR G c.env a) {b : Frame} (hb : b.fn = c.f) (hk : b.kind = .normal) (todo : List Item) :
    ∃ e, RetOK A w0 G0 r.out r.st e w ∧ Frame.leaving P { b.at a todo with mode := .returning } w e := by
  unfold finA at h
  split at h
  · obtain ⟨fn, hfn, h⟩ := bind_some h
    obtain ⟨xs, ys, h1, h2, h3⟩ := resA_sound hS.tab hR hA h
    cases h1
    refine ⟨.returned _, ⟨G, hG, hR, _, rfl, tupA_VR h3⟩, rfl, hA.dfr, hk, fn, ?_, ?_⟩
    · show P.funcs[b.fn]? = some fn
      rw [hb]
      exact (hS.fns _ _ hfn).1
    · show (results fn a.tmps).run P w = _
      rw [results_eq, Array.mapM_eq_mapM_toList]
      simp only [Sem.run_bind, Sem.run_map, h2, Result.andThen_ok, Sem.run_pure]
  · cases h

theorem panA_sound {G0 : Gh} {c : Cfg} {x : AV} {s : Sto} {r : Res} (h : panA c x s = some r) {v : Value} (hG : G0.le G) (hR : Rel A.bld A.u8 w0 G s w) (hx : VR G x v) : RetOK A w0 G0 r.out r.st (.panicked [{ v, recovered := false }]) w := by
  unfold panA at h
  split at h
  · cases h
    exact ⟨G, hG, hR, x, v, rfl, rfl, hx⟩
  · cases h

theorem steps_behind {m x m' : Machine} (h : step P m = .next x) (hs : Steps P m m') (hne : m ≠ m') : Steps P x m' := by
  obtain ⟨n, hn⟩ := hs
  cases n with
  | zero => exact absurd (by simpa [runN] using hn) hne
  | succ n => exact ⟨n, by simpa [runN, h] using hn⟩

/-- A region behind which the run goes on. -/
theorem region_ends {G0 : Gh} {c : Cfg} {r : Res} {K : Kont} {t : List AItem} {env0 : List AV} {b : Frame} {cs : List Frame} {fn : Func} (hf : P.funcs[c.f]? = some fn) (hb : b.fn = c.f)
    (hK : ∀ env st G a w, K { c with todo := t, env := env, st := st } = some r → G0.le G → Rel A.bld A.u8 w0 G st w → ActR G env a → Ends P A w0 G0 r (lone (b.at a (t.map AItem.item)) cs w) c.f cs)
    {code : Code} {a : Act} (h : code.wp P (RQ A w0 G0 (fun env' st' => K { c with todo := t, env := env', st := st' }) (panA { c with env := env0 }) r) a w) :
    Ends P A w0 G0 r (lone (b.at a (.code code :: t.map AItem.item)) cs w) c.f cs := by
  obtain ⟨e, a', w', hq, harr⟩ := h b (t.map AItem.item) cs
  cases e with
  | normal =>
    obtain ⟨env, st, G, h1, h2, h3, h4⟩ := hq
    exact (hK env st G a' w' h4 h1 h2 h3).of_steps harr
  | panic ch =>
    obtain ⟨x, v, st, G, rfl, h1, h2, h3, h4, h5⟩ := hq
    obtain ⟨todo, hs⟩ := harr
    exact ⟨.panicked _, w', _, panA_sound h5 h1 h2 h3, hs, hb, rfl, h4, fn, by show P.funcs[b.fn]? = some fn; rw [hb]; exact hf⟩
  | exit id => exact hq.elim
  | goto l => exact hq.elim
  | ret => exact hq.elim
  | outgrown => exact hq.elim

def RunOk (P : Program) (A : AProg) (w0 : World) (K : Kont) : Prop := ∀ (c : Cfg) (r : Res), K c = some r → ∀ (G0 G : Gh) (a : Act) (w : World) (b : Frame) (cs : List Frame) (fn : Func), GlobsR A G0 → G0.le G → Rel A.bld A.u8 w0 G c.st w → ActR G c.env a → c.dfr = [] →
  P.funcs[c.f]? = some fn → b.fn = c.f → b.kind = .normal → Ends P A w0 G0 r (lone (b.at a (c.todo.map AItem.item)) cs w) c.f cs

theorem stepF_sound (hS : Sound P A w0) {C : Call} (hC : CallOk P A w0 C) (hI : CallIn A C) {K : Kont} (hK : RunOk P A w0 K) : RunOk P A w0 (stepF A C K) := by
  intro c r h G0 G a w b cs fn hGl hG hR hA hd hf hb hk
  have fin : ∀ {c' : Cfg} {todo : List Item} {m : Machine}, c'.f = c.f → c'.st = c.st → ActR G c'.env a → finA A c' = some r → Steps P m (lone { b.at a todo with mode := .returning } cs w) → Ends P A w0 G0 r m c.f cs := by
    intro c' todo m e1 e2 e3 e4 e5
    obtain ⟨e, k1, k2⟩ := finA_sound hS e4 hG (e2 ▸ hR) e3 (hb.trans e1.symm) hk todo
    exact ⟨e, w, _, k1, e5, hb, k2⟩
  have go : ∀ {t : List AItem} {env : List AV} {m : Machine}, K { c with todo := t, env := env } = some r → ActR G env a → Steps P m (lone (b.at a (t.map AItem.item)) cs w) → Ends P A w0 G0 r m c.f cs := by
    intro t env m e1 e2 e3
    exact (hK _ _ e1 G0 G a w b cs fn hGl hG hR e2 hd hf hb hk).of_steps e3
  unfold stepF at h
  split at h
  · rename_i ht
    rw [ht]
    exact fin rfl rfl hA h (.one step_end)
  · rename_i ht
    rw [ht]
    exact go (env := c.env) h hA (.one step_inBlock)
  · rename_i ht
    rw [ht]
    exact go (env := c.env) h hA (.one step_inScope)
  · rename_i p body t ht
    rw [ht]
    exact go (env := c.env) h hA (.one step_inLoop)
  · rename_i p code t ht
    rw [ht]
    have hA' : ActR G ((A.note c.f).keepAt p c.env) a := keepAt_R hA
    simp only [List.map_cons, AItem.item]
    cases code with
    | skip => exact go h hA' (.one step_skip)
    | label l => exact go h hA' (.one step_label)
    | ret => exact fin (c' := { c with env := (A.note c.f).keepAt p c.env }) rfl rfl hA' h (.one step_ret)
    | seq x y => exact go h hA' (.one step_seq)
    | cond x u v =>
      obtain ⟨q, hq, h⟩ := bind_some h
      have hx := evA_VR hA' (hGl.mono hG) x
      rw [asB_some hq] at hx
      have hs := step_cond (P := P) (b := b) (a := a) (k := t.map AItem.item) (cs := cs) (w := w) (c := x) (x := u) (y := v) hx.bool_inv
      cases q
      · exact go h hA' (.one hs)
      · exact go h hA' (.one hs)
    | block id body => exact go h hA' (.one step_block)
    | loop body =>
      have := go (m := lone (b.at a (.inLoop body :: t.map AItem.item)) cs w) h hA' (Steps.refl _ _)
      obtain ⟨e, w', fr, k1, k2, k3, k4⟩ := this
      refine ⟨e, w', fr, k1, ?_, k3, k4⟩
      have hne : fr.mode ≠ .run := by
        cases e with
        | returned v => rw [k4.1]; simp
        | panicked ch => rw [k4.1]; simp
        | outgrown => exact k1.elim
      refine .head step_loop (steps_behind step_inLoop k2 fun he => hne ?_)
      have := congrArg (fun m => (m.gs[0]?).map (·.frame.mode)) he
      simpa [lone, Frame.at] using this.symm
    | scope body => exact go h hA' (.one step_scope)
    | exit id =>
      obtain ⟨t', ht', h⟩ := bind_some h
      exact go h hA' (.one (step_exit (exitA_item ht')))
    | goto l =>
      obtain ⟨t', ht', h⟩ := bind_some h
      exact go h hA' (.one (step_goto (gotoA_item ht')))
    | region rid ops draw =>
      cases draw with
      | false =>
        refine region_ends (env0 := c.env) (K := K) hf hb (fun env st G' a' w' k1 k2 k3 k4 => hK _ _ k1 G0 G' a' w' b cs fn hGl k2 k3 k4 hd hf hb hk) (wp_region ?_)
        have := runOps_sound hS hC hI hGl ops.toList 0 rfl _ _ G a w hG hR hA' h
        rw [List.range_eq_range']
        simpa using this
      | true =>
        simp only [cond_true] at h
        cases hdr : A.draws with
        | false => simp [hdr] at h
        | true =>
          simp only [hdr, cond_true] at h
          refine region_ends (env0 := c.env) (K := K) hf hb (fun env st G' a' w' k1 k2 k3 k4 => hK _ _ k1 G0 G' a' w' b cs fn hGl k2 k3 k4 hd hf hb hk) (wp_region_any (hS.mixed hdr) ?_)
          exact drawLaw hS C _ rid ops _ _ r G0 G _ _ a w hC hI hGl hG hR hA' h
    | rangeFunc f ps x y => cases h
    | refuse why => cases h

theorem callIn_callK (A : AProg) (n : Nat) : CallIn A (callK A n) := by
  intro f args st r h
  unfold callK at h
  obtain ⟨c, hc, h⟩ := bind_some h
  unfold entry at hc
  obtain ⟨fn, hfn, hc⟩ := bind_some hc
  obtain ⟨body, hb, hc⟩ := bind_some hc
  exact ⟨fn, hfn, by simp [hb]⟩

theorem call_sound (hS : Sound P A w0) {n : Nat} (hK : RunOk P A w0 (run A n)) : CallOk P A w0 (callK A n) := by
  intro f args st out st' G w vs h hGl hR hv cs
  unfold callK at h
  obtain ⟨c, hc, h1⟩ := bind_some h
  obtain ⟨r, hr, h2⟩ := bind_some h1
  clear h h1
  unfold entry at hc
  obtain ⟨fn, hfn, hc1⟩ := bind_some hc
  obtain ⟨body, hbody, hc2⟩ := bind_some hc1
  clear hc hc1
  cases hc2
  obtain ⟨hf, _⟩ := hS.fns f fn hfn
  let b : Frame := { (default : Frame) with fn := f, kind := .normal }
  let a : Act := { tmps := vs ++ Array.replicate (fn.ntmps - vs.size) undef, defers := [] }
  have hlen : args.length = vs.size := by simpa using hv.len
  have hA : ActR G (args ++ List.replicate (fn.ntmps - args.length) (.tup [])) a := by
    refine ⟨?_, rfl⟩
    show VRs G _ (vs ++ Array.replicate (fn.ntmps - vs.size) undef).toList
    rw [Array.toList_append, Array.toList_replicate, hlen]
    refine hv.append ⟨by simp, fun j x y hx hy => ?_⟩
    rw [List.getElem?_replicate] at hx hy
    split at hx
    · cases hx
      split at hy
      · cases hy; exact undef_VR G
      · rename_i h1 h2; exact absurd h1 h2
    · cases hx
  have henter : Frame.enter P f vs .normal = b.at a [.code body] := by simp [Frame.enter, Frame.at, hf, hbody, b, a]
  rw [henter]
  obtain ⟨e, w', fr, k1, k2, k3, k4⟩ := hK _ r hr G G a w b cs fn hGl (Gh.le.refl G) hR hA rfl hf rfl rfl
  have k5 := gcK_sound (keep := A.tips.contains f) hR k1
  cases hgc : gcK (A.tips.contains f) st (r.out, r.st) with
  | mk o s =>
    rw [hgc] at h2 k5
    cases h2
    refine ⟨e, w', fr, k5, ?_, k3, k4⟩
    cases e with
    | outgrown => exact k1.elim
    | returned v => exact k2
    | panicked ch => exact k2

theorem run_sound (hS : Sound P A w0) : ∀ n, RunOk P A w0 (run A n) := by
  intro n
  induction n with
  | zero => intro c r h; cases h
  | succ n ih => exact stepF_sound hS (call_sound hS ih) (callIn_callK A n) ih

/-- What the machine says of a call holds of the program. -/
theorem CallR_sound (hS : Sound P A w0) : CallOk P A w0 (CallR A) := by
  intro f args st out st' G w vs h
  obtain ⟨k, hk⟩ := CallR_callK A h
  exact call_sound hS (run_sound hS k) f args st out st' G w vs hk

end

end Go.St
