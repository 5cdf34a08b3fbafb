/- What every operation does in memory. -/
import Derived.Test.YtnjpbbiolngfkaaDoorStS10
import Derived.CallsIn
import Derived.OrdersIn
namespace Go.St
open Go.RowKit
set_option linter.unusedVariables false
set_option linter.unusedSimpArgs false

/-! ### Frames -/
/-- What is deferred: marks of loops over functions. -/
inductive DfrR (G : Gh) : List ADef → List Deferred → Prop
  | nil : DfrR G [] []
  | mark {id r : Nat} {l : List ADef} {ds : List Deferred} (h : G.ρ id 1 = some (r, 0)) (k : DfrR G l ds) : DfrR G (⟨.yl id, []⟩ :: l) ({ target := .collected r, args := #[] } :: ds)

theorem DfrR.mono {G G' : Gh} (h : G.le G') {l : List ADef} {ds : List Deferred} (k : DfrR G l ds) : DfrR G' l ds := by
  induction k with
  | nil => exact .nil
  | mark h1 _ ih => exact .mark (h.ρ _ _ _ h1) ih
theorem DfrR.none {G : Gh} {ds : List Deferred} (h : DfrR G [] ds) : ds = [] := by cases h; rfl

structure ActR (G : Gh) (env : List AV) (dfr : List ADef) (a : Act) : Prop where
  vals : VRs G env a.tmps.toList
  dfr : DfrR G dfr a.defers

def GlobsR (A : AProg) (G : Gh) : Prop := ∀ g cs, assoc g A.globs = some cs → VR G (.ip cs) (.pointer (some ⟨g, 0, none⟩))

theorem GlobsR.mono {A : AProg} {G G' : Gh} (h : GlobsR A G) (k : G.le G') : GlobsR A G' := fun g cs hg => (h g cs hg).mono k
theorem ActR.mono {G G' : Gh} {env : List AV} {dfr : List ADef} {a : Act} (h : ActR G env dfr a) (k : G.le G') : ActR G' env dfr a := ⟨h.vals.mono k, h.dfr.mono k⟩

theorem ofConst1_VR (v : Value) (G : Gh) : VR G (ofConst1 v) v := by
  unfold ofConst1
  split <;> constructor
theorem ofConst_VR (v : Value) (G : Gh) : VR G (ofConst v) v := by
  unfold ofConst
  split
  · rename_i cs
    refine .agg _ cs (by simp) fun j a v ha hv => ?_
    simp only [List.getElem?_map, Array.getElem?_toList, hv, Option.map_some, Option.some.injEq] at ha
    subst ha
    exact ofConst1_VR v G
  · exact ofConst1_VR _ G

theorem evA_VR {A : AProg} {G : Gh} {env : List AV} {dfr : List ADef} {a : Act} (h : ActR G env dfr a) (hg : GlobsR A G) (x : Operand) : VR G (evA A env x) (a.eval x) := by
  cases x with
  | tmp t =>
    simp only [evA, Act.eval]
    have hlen : env.length = a.tmps.size := by simpa using h.vals.len
    by_cases ht : t < env.length
    · have ht' : t < a.tmps.size := hlen ▸ ht
      have h1 : env.getD t (.tup []) = env[t] := by simp [ht]
      have h2 : a.tmps.getD t undef = a.tmps[t] := by simp [ht']
      rw [h1, h2]
      exact h.vals.at_ t _ _ (List.getElem?_eq_getElem ht) (by simp [ht'])
    · have ht' : ¬ t < a.tmps.size := hlen ▸ ht
      have h1 : env.getD t (.tup []) = .tup [] := by simp [ht]
      have h2 : a.tmps.getD t undef = undef := by simp [Array.getD, ht']
      rw [h1, h2]
      exact .tup [] #[] rfl (fun j a v ha _ => by simp at ha)
  | const v => exact ofConst_VR v G
  | global g =>
    simp only [evA, Act.eval]
    split
    · rename_i cs hc; exact hg g cs hc
    · exact .any _
  | func f => exact .fn _ [] [] #[] #[] (by simp) rfl rfl (fun j a v ha _ => by simp at ha) (fun j a v ha _ => by simp at ha)

theorem undef_VR (G : Gh) : VR G (.tup []) undef := .tup [] #[] rfl (fun j a v ha _ => by simp at ha)

theorem VRs.set {G : Gh} {as : List AV} {vs : List Value} (h : VRs G as vs) (d : Nat) {a : AV} {v : Value} (hv : VR G a v) : VRs G (as.set d a) (vs.set d v) := by
  refine ⟨by simp [h.len], fun j x y hx hy => ?_⟩
  by_cases hj : d = j
  · subst hj
    have h1 := (List.getElem?_eq_some_iff.1 hx).1
    have h2 := (List.getElem?_eq_some_iff.1 hy).1
    simp only [List.length_set] at h1 h2
    rw [List.getElem?_set_self h1] at hx
    rw [List.getElem?_set_self h2] at hy
    cases hx; cases hy
    exact hv
  · rw [List.getElem?_set_ne hj] at hx hy
    exact h.at_ j x y hx hy

theorem ActR.put {G : Gh} {env : List AV} {dfr : List ADef} {a : Act} (h : ActR G env dfr a) (dst : Option Tmp) {x : AV} {v : Value} (hv : VR G x v) : ActR G (Go.St.put env dst x) dfr (a.put dst v) := by
  cases dst with
  | none => exact h
  | some d => exact ⟨by simpa [Go.St.put, Act.put] using h.vals.set d hv, h.dfr⟩

/-! ### Ends -/
def RetOK (A : AProg) (w0 : World) (G : Gh) (out : Out) (st' : Sto) : Ending → World → Prop
  | .returned v, w' => ∃ G', G.le G' ∧ Rel A.bld A.u8 w0 G' st' w' ∧ ∃ x, out = .ret x ∧ VR G' x v
  | .panicked ch, w' => ∃ G', G.le G' ∧ Rel A.bld A.u8 w0 G' st' w' ∧ ∃ x v, out = .pan x ∧ ch = [{ v, recovered := false }] ∧ VR G' x v
  | .outgrown, _ => False

def OpOK (P : Program) (A : AProg) (w0 : World) (G : Gh) (out : Out) (st' : Sto) : Result Next → Prop
  | .ok (.value v) w' => RetOK A w0 G out st' (.returned v) w'
  | .ok .skip w' => RetOK A w0 G out st' (.returned undef) w'
  | .ok (.enter f args) w' => Calls P f args w' (RetOK A w0 G out st')
  | .ok (.round l f tmps assign body) w' => RoundIn Fence.wide 0 P l f tmps assign body w' (RetOK A w0 G out st')
  | .halt (.panic v) w' => RetOK A w0 G out st' (.panicked [{ v, recovered := false }]) w'
  | _ => False

structure CallOk (P : Program) (A : AProg) (w0 : World) (C : Call) : Prop where
  call : ∀ f args st out st' G w (vs : Array Value), C f args st = some (out, st') → f ≠ rnd → GlobsR A G → Rel A.bld A.u8 w0 G st w → VRs G args vs.toList → Calls P f vs w (RetOK A w0 G out st')
  round : ∀ id args st out st' G w b (vs : Array Value), C rnd (.yl id :: args) st = some (out, st') → GlobsR A G → Rel A.bld A.u8 w0 G st w → G.ρ id 0 = some (b, 0) → VRs G args vs.toList → OpOK P A w0 G out st' ((Instr.yield b vs).run P w)
def PrimOk (P : Program) (A : AProg) (w0 : World) : Prop := ∀ f p, assoc f A.prims = some p → ∀ args st out st' G w (vs : Array Value), primA p args st = some (out, st') → Rel A.bld A.u8 w0 G st w → VRs G args vs.toList →
  OpOK P A w0 G out st' ((callFunc f vs).run P w)
def FnsOk (P : Program) (A : AProg) : Prop := ∀ f fn, assoc f A.fns = some fn → P.funcs[f]? = some fn ∧ (fn.name == "runtime.NumGoroutine") = false
def BldOk (P : Program) (A : AProg) : Prop := ∀ i, P.info? A.bld = some i → i.zero = some (.agg #[.pointer none, .slice none 0 0])
def EqsOk (P : Program) (A : AProg) : Prop := ∀ t ks, assoc t A.eqs = some ks → eqOkB P t ks = true

/-- A function of the program's is known to be one. -/
def CallIn (A : AProg) (C : Call) : Prop := ∀ f args st r, C f args st = some r → f ≠ rnd → ∃ fn, assoc f A.fns = some fn ∧ fn.body.isSome = true

/-- Every machine is let in. -/
def WF (ro : Option Nat) : Fence := { Fence.wide with round := ro }
theorem WF.room (ro : Option Nat) (n : Nat) : (WF ro).room n := room_wide n
theorem WF.steps {P : Program} {ro : Option Nat} {m m' : Machine} : StepsIn (Machine.fenced P (WF ro)) P m m' ↔ Steps P m m' := stepsIn_wide
theorem WF.calls {P : Program} {ro : Option Nat} {n : Nat} {f : FuncId} {args : Array Value} {w : World} {R : Ending → World → Prop} (h : Calls P f args w R) : CallsIn (WF ro) n P f args w R := callsIn_wide.2 h
theorem WF.deep {ro : Option Nat} {n : Nat} : (WF ro).depth.isSome = true → 1 ≤ n := fun h => by cases h

/-- How a region ends. -/
def RQ {R : Type} (A : AProg) (w0 : World) (G0 : Gh) (dfr : List ADef) (kn : List AV → Sto → Option R) (kp : AV → Sto → Option R) (r : R) : Exit → Act → World → Prop
  | .normal, a, w => ∃ env st G, G0.le G ∧ Rel A.bld A.u8 w0 G st w ∧ ActR G env dfr a ∧ kn env st = some r
  | .panic ch, a, w => ∃ x v st G, ch = [{ v, recovered := false }] ∧ G0.le G ∧ Rel A.bld A.u8 w0 G st w ∧ VR G x v ∧ DfrR G dfr a.defers ∧ kp x st = some r
  | _, _, _ => False

/-- Regions whose order is open. -/
def DrawLaw (P : Program) (A : AProg) (w0 : World) : Prop := ∀ (ro : Option Nat) (C : Call) (nt : Note) (rid : Nat) (ops : Array Oper) (kn : List AV → Sto → Option Res) (kp : AV → Sto → Option Res) (r : Res) (G0 G : Gh) (env : List AV) (dfr : List ADef) (st : Sto) (a : Act) (w : World),
  CallOk P A w0 C → CallIn A C → GlobsR A G0 → G0.le G → Rel A.bld A.u8 w0 G st w → ActR G env dfr a → runDraw A C nt rid ops kn kp env st = some r → wpAnyIn (WF ro) 0 P .any ops (RQ A w0 G0 dfr kn kp r) ops.size (Array.replicate ops.size false) a { w with drawn := w.drawn + 1 }

structure Sound (P : Program) (A : AProg) (w0 : World) : Prop where
  tab : TabOk P A
  eqs : EqsOk P A
  fns : FnsOk P A
  prims : PrimOk P A w0
  bld : BldOk P A
  mixed : A.draws = true → P.follows .mixedOrders = true

section
variable {P : Program} {A : AProg} {w0 : World} {G : Gh} {st st' : Sto} {w : World} {R : Type}

theorem Gives.op {s : Sem Value} {v : AV} (h : Gives P A w0 G s w v st') : OpOK P A w0 G (.ret v) st' ((do Pure.pure (.value (← s)) : Sem Next).run P w) := by
  obtain ⟨v', w', G', h1, h2, h3, h4⟩ := h
  simp only [Sem.run_bind, h1, Result.andThen_ok, Sem.run_pure]
  exact ⟨G', h2, h3, v, rfl, h4⟩
theorem GivesU.op {s : Sem Unit} (h : GivesU P A w0 G s w st') : OpOK P A w0 G (.ret (.tup [])) st' ((do s; Pure.pure .skip : Sem Next).run P w) := by
  obtain ⟨w', G', h1, h2, h3⟩ := h
  simp only [Sem.run_bind, h1, Result.andThen_ok, Sem.run_pure]
  exact ⟨G', h2, h3, _, rfl, undef_VR G'⟩
theorem op_value (hR : Rel A.bld A.u8 w0 G st w) {v : AV} {v' : Value} (hv : VR G v v') : OpOK P A w0 G (.ret v) st (.ok (.value v') w) := ⟨G, Gh.le.refl G, hR, v, rfl, hv⟩

theorem one_some {r : Option AV} {k : Out → Sto → Option R} {x : R} (h : one r st k = some x) : ∃ v, r = some v ∧ k (.ret v) st = some x := by
  cases r with
  | none => simp [one] at h
  | some v => exact ⟨v, rfl, h⟩
theorem two_some {r : Option (AV × Sto)} {k : Out → Sto → Option R} {x : R} (h : two r k = some x) : ∃ v s, r = some (v, s) ∧ k (.ret v) s = some x := by
  cases r with
  | none => simp [two] at h
  | some v => exact ⟨v.1, v.2, rfl, h⟩
theorem unit_some {r : Option Sto} {k : Out → Sto → Option R} {x : R} (h : unit r k = some x) : ∃ s, r = some s ∧ k (.ret (.tup [])) s = some x := by
  cases r with
  | none => simp [unit] at h
  | some v => exact ⟨v, rfl, h⟩
theorem bind_some {α β : Type} {r : Option α} {f : α → Option β} {x : β} (h : r.bind f = some x) : ∃ v, r = some v ∧ f v = some x := by
  cases r with
  | none => cases h
  | some v => exact ⟨v, rfl, h⟩

theorem g_allocBld (hT : TabOk P A) (hB : BldOk P A) (hR : Rel A.bld A.u8 w0 G st w) {td : TD} (ht : assoc A.bld A.tab = some td) (old : Value) : Gives P A w0 G (Instr.alloc A.bld true old) w (.mp st.length 0 0) (st ++ [.bld ByteArray.empty]) := by
  obtain ⟨i, d, hi, hd, _⟩ := (hT _ td ht).ok
  have hz := hB i hi
  obtain ⟨own, hRo⟩ := id hR
  obtain ⟨fH, fZ, fo⟩ := hRo.fresh
  obtain ⟨G', h1, h2, h3⟩ := rel_newobj hR (.bld ByteArray.empty) (.cells #[.pointer none, .slice none 0 0] A.bld (0, 0)) rfl fun G' own' w' k1 k2 k3 k4 k5 =>
    ⟨w.heap.size, k2, k3, .pointer none, .slice none 0 0, .inl rfl, k4, by rw [k5]; exact fH, .inl ⟨rfl, rfl⟩⟩
  refine ⟨.pointer (some ⟨w.heap.size, 0, none⟩), _, G', ?_, h1, h2, .mp _ _ 0 _ _ h3⟩
  simp [Instr.alloc, r_zero hi hz, newVar, newRow, Value.cells]

theorem asI_some {k : IntKind} {x : AV} {n : Int} (h : asI k x = some n) : x = .int k n := by
  unfold asI at h
  split at h
  · split at h
    · rename_i hk; subst hk; cases h; rfl
    · cases h
  · cases h
theorem asInt_some {x : AV} {n : Int} (h : asInt x = some n) : ∃ k, x = .int k n := by
  unfold asInt at h
  split at h
  · rename_i k m; cases h; exact ⟨k, rfl⟩
  · cases h
theorem asS_some {x : AV} {s : ByteArray} (h : asS x = some s) : x = .str s := by
  unfold asS at h
  split at h
  · cases h; rfl
  · cases h
theorem asB_some {x : AV} {s : Bool} (h : asB x = some s) : x = .bool s := by
  unfold asB at h
  split at h
  · cases h; rfl
  · cases h

theorem parts_R {G : Gh} {ev : Operand → AV} {ρ : Operand → Value} (hev : ∀ x, VR G (ev x) (ρ x)) (parts : Array (Nat × Operand)) : PartsR G (parts.toList.map fun (i, x) => (i, ev x)) (parts.map fun (i, x) => (i, ρ x)).toList := by
  refine ⟨by simp, fun j x y hx hy => ?_⟩
  simp only [Array.toList_map, List.getElem?_map] at hx hy
  cases hp : parts.toList[j]? with
  | none => simp [hp] at hx
  | some p =>
    simp only [hp, Option.map_some, Option.some.injEq] at hx hy
    subst hx; subst hy
    exact ⟨rfl, hev _⟩

theorem VRs.map {α : Type} {G : Gh} {f : α → AV} {g : α → Value} (h : ∀ x, VR G (f x) (g x)) (l : List α) : VRs G (l.map f) (l.map g) := by
  refine ⟨by simp, fun j a v ha hv => ?_⟩
  simp only [List.getElem?_map] at ha hv
  cases hp : l[j]? with
  | none => simp [hp] at ha
  | some p =>
    simp only [hp, Option.map_some, Option.some.injEq] at ha hv
    subst ha; subst hv
    exact h p

theorem op_bin (hS : Sound P A w0) (hR : Rel A.bld A.u8 w0 G st w) {t : TypeId} {td : TD} (ht : assoc t A.tab = some td) {op : BinOp} {X Y : Operand} {x y : AV} {xv yv : Value} {c : AV → Option R} {r : R}
    (h : binK td ((assoc t A.eqs).getD []) (isNilConst X || isNilConst Y) op x y c = some r) (hx : VR G x xv) (hy : VR G y yv) : ∃ v, c v = some r ∧ Gives P A w0 G (do eqGuard op t X Y xv yv; binOp op t xv yv) w v st := by
  obtain ⟨_, d, _, hd, _, _, hk, _⟩ := (hS.tab t td ht).ok
  unfold binK at h
  split at h
  · rename_i ik hik
    obtain ⟨a, ha, h2⟩ := bind_some h
    clear h
    obtain rfl := asI_some ha
    cases hx
    split at h2
    · obtain ⟨b, hb, h⟩ := bind_some h2
      obtain ⟨k', rfl⟩ := asInt_some hb
      cases hy
      obtain ⟨v, h1, v', h2, h3⟩ := g_binI (P := P) (G := G) (w := w) (k' := k') (.inr (.inl rfl)) h t X Y
      exact ⟨v, h1, Gives.same hR h2 h3⟩
    · obtain ⟨b, hb, h⟩ := bind_some h2
      obtain ⟨k', rfl⟩ := asInt_some hb
      cases hy
      obtain ⟨v, h1, v', h2, h3⟩ := g_binI (P := P) (G := G) (w := w) (k' := k') (.inr (.inr rfl)) h t X Y
      exact ⟨v, h1, Gives.same hR h2 h3⟩
    · obtain ⟨b, hb, h⟩ := bind_some h2
      obtain rfl := asI_some hb
      cases hy
      obtain ⟨v, h1, v', h2, h3⟩ := g_binI (P := P) (G := G) (w := w) (.inl rfl) h t X Y
      exact ⟨v, h1, Gives.same hR h2 h3⟩
  · obtain ⟨a, ha, h⟩ := bind_some h
    obtain ⟨b, hb, h⟩ := bind_some h
    obtain rfl := asS_some ha
    obtain rfl := asS_some hb
    cases hx; cases hy
    obtain ⟨v, h1, v', h2, h3⟩ := g_binS (P := P) (G := G) (w := w) h t X Y
    exact ⟨v, h1, Gives.same hR h2 h3⟩
  · have hks : (assoc t A.eqs).getD [] = [] ∨ eqOkB P t ((assoc t A.eqs).getD []) = true := by
      cases he : assoc t A.eqs with
      | none => exact .inl rfl
      | some ks => exact .inr (hS.eqs t ks he)
    split at h
    · obtain ⟨q, hq, h⟩ := bind_some h
      exact ⟨_, h, Gives.same hR (by simpa using g_eqV hd hk hks hq hx hy (op := .eql) (.inl rfl)) (.bool q)⟩
    · obtain ⟨q, hq, h⟩ := bind_some h
      exact ⟨_, h, Gives.same hR (by simpa using g_eqV hd hk hks hq hx hy (op := .neq) (.inr rfl)) (.bool _)⟩
    · cases h

theorem fn_VRs {G : Gh} {f : Fn} {as cs : List AV} {xs ys : Array Value} (h : VR G (.fn f as cs) (.func f xs ys)) : VRs G as xs.toList ∧ VRs G cs ys.toList := by
  cases h with
  | fn _ _ _ _ _ hf hx hy hh hk =>
    exact ⟨⟨by simpa using hx, fun j a v ha hv => hh j a v ha (by simpa using hv)⟩, ⟨by simpa using hy, fun j a v ha hv => hk j a v ha (by simpa using hv)⟩⟩

theorem g_invoke (hS : Sound P A w0) {C : Call} (hC : CallOk P A w0 C) (hI : CallIn A C) (hGl : GlobsR A G) (hR : Rel A.bld A.u8 w0 G st w) {f : AV} {fv : Value} {args : List AV} {xs : Array Value} {out : Out} (h : invokeA A C f args st = some (out, st')) (hf : VR G f fv) (hx : VRs G args xs.toList) :
    OpOK P A w0 G out st' ((do let d ← Deferred.ofValue fv xs; invoke d.target d.args : Sem Next).run P w) := by
  unfold invokeA at h
  split at h
  case h_3 => cases h
  case h_2 id =>
    cases hf with
    | yl _ b hb =>
      have hrun : (do let d ← Deferred.ofValue (.func (.yield b) #[] #[]) xs; invoke d.target d.args : Sem Next).run P w = (Instr.yield b xs).run P w := by
        simp [Deferred.ofValue, invoke]
      rw [hrun]
      exact hC.round id args st out st' G w b xs h hGl hR hb hx
  rename_i g first cap
  obtain ⟨us, ys, rfl⟩ : ∃ us ys, fv = .func (.func g) us ys := by cases hf; exact ⟨_, _, rfl⟩
  obtain ⟨h1, h2⟩ := fn_VRs hf
  have hargs : VRs G (first ++ args ++ cap) (us ++ xs ++ ys).toList := by simpa using (h1.append hx).append h2
  have hrun : (do let d ← Deferred.ofValue (.func (.func g) us ys) xs; invoke d.target d.args : Sem Next).run P w = (callFunc g (us ++ xs ++ ys)).run P w := by
    simp [Deferred.ofValue, invoke]
  rw [hrun]
  unfold callA at h
  split at h
  · rename_i p hp
    exact hS.prims g p hp _ st out st' G w _ h hR hargs
  · have hg : g ≠ rnd := fun e => by subst e; simp [rnd] at h
    have h : C g (first ++ args ++ cap) st = some (out, st') := by
      cases hb : Nat.beq g rnd with
      | true => exact absurd (Nat.eq_of_beq_eq_true hb) hg
      | false => rw [hb] at h; exact h
    obtain ⟨fn, hfn, hb⟩ := hI _ _ _ _ h hg
    obtain ⟨h3, h4⟩ := hS.fns g fn hfn
    obtain ⟨c, hc⟩ := Option.isSome_iff_exists.1 hb
    have : (callFunc g (us ++ xs ++ ys)).run P w = .ok (.enter g (us ++ xs ++ ys)) w := by
      have h1 : fn.name ≠ "runtime.NumGoroutine" := by simpa using h4
      simp [callFunc, h3, h1, hc]
    rw [this]
    exact hC.call g _ st out st' G w _ h hg hGl hR hargs

theorem g_builtin (hS : Sound P A w0) (hR : Rel A.bld A.u8 w0 G st w) {wr : Bool} {b : Builtin} {ts : List TypeId} {args : List AV} {xs : Array Value} {k : Out → Sto → Option R} {r : R} (h : builtinK A wr b ts args st k = some r) (hx : VRs G args xs.toList) :
    ∃ out st', k out st' = some r ∧ ∀ (ty : TypeId) (cs : Array Bool), OpOK P A w0 G out st' ((builtin b ts.toArray ty cs xs).run P w) := by
  unfold builtinK at h
  have two : ∀ {x y : AV}, VRs G [x, y] xs.toList → ∃ a b, xs = #[a, b] ∧ VR G x a ∧ VR G y b := by
    intro x y hh
    obtain ⟨a, l, e1, h1, hh⟩ := hh.head
    obtain ⟨b, l, e2, h2, hh⟩ := hh.head
    have : l = [] := List.eq_nil_of_length_eq_zero (by rw [← hh.len]; rfl)
    subst this
    subst e2
    exact ⟨a, b, by apply Array.ext'; simpa using e1, h1, h2⟩
  split at h
  · obtain ⟨a, l, e1, h1, hh⟩ := hx.head
    have : l = [] := List.eq_nil_of_length_eq_zero (by rw [← hh.len]; rfl)
    subst this
    obtain rfl : xs = #[a] := by apply Array.ext'; simpa using e1
    obtain ⟨v, hv, hg⟩ := g_len hS.tab hR h h1
    exact ⟨_, _, hv, fun ty cs => (hg ty).op⟩
  · obtain ⟨a, b, rfl, h1, h2⟩ := two hx
    obtain ⟨v, s, h3, h4⟩ := two_some h
    exact ⟨_, _, h4, fun ty cs => (g_append hS.tab hR h3 h1 h2).op⟩
  · obtain ⟨a, b, rfl, h1, h2⟩ := two hx
    obtain ⟨n, hn, h⟩ := bind_some h
    obtain ⟨m, hm, h⟩ := bind_some h
    obtain rfl := asI_some hn
    obtain rfl := asI_some hm
    cases h1; cases h2
    exact ⟨_, _, h, fun ty cs => Gives.op (Gives.same hR (v' := .int .i64 (mxI n m)) (by simp [Builtin.max_, Builtin.max2, mxI]) (.int _ _))⟩
  · obtain ⟨a, b, rfl, h1, h2⟩ := two hx
    obtain ⟨n, hn, h⟩ := bind_some h
    obtain ⟨m, hm, h⟩ := bind_some h
    obtain rfl := asI_some hn
    obtain rfl := asI_some hm
    cases h1; cases h2
    exact ⟨_, _, h, fun ty cs => Gives.op (Gives.same hR (v' := .int .i64 (mnI n m)) (by simp [Builtin.min_, Builtin.min2, mnI]) (.int _ _))⟩
  · cases h

theorem VR.bool_inv {b : Bool} {v : Value} (h : VR G (.bool b) v) : v = .bool b := by cases h; rfl
theorem VR.str_inv {s : ByteArray} {v : Value} (h : VR G (.str s) v) : v = .string s := by cases h; rfl

theorem doOp_sound (hS : Sound P A w0) {C : Call} (hC : CallOk P A w0 C) (hI : CallIn A C) (hGl : GlobsR A G) (hR : Rel A.bld A.u8 w0 G st w) {wr : Bool} {ev : Operand → AV} {ρ : Operand → Value} (hev : ∀ x, VR G (ev x) (ρ x)) {o : Oper}
    {k : Out → Sto → Option R} {r : R} (h : doOp A C wr ev o st k = some r) : ∃ out st', k out st' = some r ∧ OpOK P A w0 G out st' ((execOp ρ o).run P w) := by
  obtain ⟨dst, op, type, pos, after, guard⟩ := o
  cases op with
  | move x => exact ⟨_, _, h, op_value hR (hev x)⟩
  | assign x => exact ⟨_, _, h, op_value hR (hev x)⟩
  | pick c a b =>
    simp only [doOp, pickK] at h
    obtain ⟨t, ht, h⟩ := bind_some h
    have hc := hev c
    rw [asB_some ht] at hc
    have hcv : ρ c = .bool t := hc.bool_inv
    have hrun : (execOp ρ ⟨dst, .pick c a b, type, pos, after, guard⟩).run P w = .ok (.value (if t then ρ a else ρ b)) w := by
      simp [execOp, hcv, asBool]
    rw [hrun]
    cases t
    · simp only [cond_false] at h
      obtain ⟨x, hx, h⟩ := bind_some h
      refine ⟨_, _, h, op_value hR ?_⟩
      have := hev b; rw [asB_some hx] at this; exact this
    · simp only [cond_true] at h
      obtain ⟨x, hx, h⟩ := bind_some h
      refine ⟨_, _, h, op_value hR ?_⟩
      have := hev a; rw [asB_some hx] at this; exact this
  | alloc t =>
    simp only [doOp] at h
    obtain ⟨td, ht, h2⟩ := bind_some h
    clear h
    split at h2
    · rename_i hb
      subst hb
      exact ⟨_, _, h2, (g_allocBld hS.tab hS.bld hR ht _).op⟩
    · exact ⟨_, _, h2, (g_alloc hS.tab hR ht _).op⟩
  | box t x =>
    simp only [doOp] at h
    split at h
    · rename_i hc
      exact ⟨_, _, h, (g_box hR (hev x) hc t).op⟩
    · cases h
  | build t parts =>
    obtain ⟨v, h1, h2⟩ := one_some h
    exact ⟨_, _, h2, (g_build hS.tab hR h1 (parts_R hev parts)).op⟩
  | buildSlice t len parts =>
    obtain ⟨v, s, h1, h2⟩ := two_some h
    exact ⟨_, _, h2, (g_buildSlice hS.tab hR h1 (parts_R hev parts)).op⟩
  | load t a =>
    simp only [doOp] at h
    obtain ⟨td, ht, h⟩ := bind_some h
    obtain ⟨v, h1, h2⟩ := one_some h
    exact ⟨_, _, h2, (g_load hS.tab hR ht h1 (hev a)).op⟩
  | store t a x =>
    simp only [doOp] at h
    obtain ⟨td, ht, h⟩ := bind_some h
    obtain ⟨s, h1, h2⟩ := unit_some h
    exact ⟨_, _, h2, (g_store hS.tab hR ht h1 (hev a) (hev x)).op⟩
  | nilCheck x =>
    simp only [doOp] at h
    obtain ⟨v, h1, h2⟩ := one_some h
    refine ⟨_, _, h2, ?_⟩
    have hx := hev x
    unfold nilCk at h1
    split at h1 <;> cases h1 <;> rename_i hxx <;> rw [hxx] at hx <;> generalize hv : ρ x = xv at hx <;> cases hx <;> simp only [execOp, hv] <;> exact op_value hR (by rw [← hxx, ← hv]; exact hev x)
  | binOp op t x y z =>
    simp only [doOp] at h
    obtain ⟨td, ht, h⟩ := bind_some h
    obtain ⟨v, h1, h2⟩ := op_bin hS hR ht h (hev x) (hev y)
    exact ⟨_, _, h1, h2.op⟩
  | unOp op t x =>
    simp only [doOp] at h
    obtain ⟨td, ht, h⟩ := bind_some h
    obtain ⟨v, h1, v', h2, h3⟩ := g_un (P := P) (w := w) h (hev x)
    exact ⟨_, _, h1, (Gives.same hR h2 h3).op⟩
  | convert s d x =>
    simp only [doOp] at h
    obtain ⟨v, s, h1, h2⟩ := g_conv hS.tab hR h (hev x)
    exact ⟨_, _, h1, h2.op⟩
  | makeInterface t x =>
    simp only [doOp] at h
    obtain ⟨td, ht, h⟩ := bind_some h
    obtain ⟨_, d, _, hd, _, _, hk, _⟩ := (hS.tab t td ht).ok
    have hni : ∀ ms, d ≠ .interface ms := by
      rintro ms rfl
      split at h
      · cases h
      · rename_i hk'
        cases htk : td.k <;> simp [htk, kindB] at hk
        exact hk' _ htk
    split at h
    · cases h
    · refine ⟨_, _, h, Gives.op (Gives.same hR (v' := .iface t (ρ x)) ?_ (.ifc t _ _ (hev x)))⟩
      simp only [Instr.makeInterface, Sem.run_bind, run_underlying hd, Result.andThen_ok]
      cases d <;> first | (exact absurd rfl (hni _)) | rfl
  | makeFunc f first cap =>
    have hf : ∀ l, f ≠ .yield l := by
      rintro l rfl
      simp [doOp] at h
    have h1 := VRs.map hev first.toList
    have h2 := VRs.map hev cap.toList
    refine ⟨.ret (.fn f (first.toList.map ev) (cap.toList.map ev)), st, ?_, Gives.op (Gives.same hR (v' := .func f (first.map ρ) (cap.map ρ)) rfl (.fn _ _ _ _ _ hf (by simp) (by simp) (fun j a v ha hv => h1.at_ j a v ha (by simpa using hv)) (fun j a v ha hv => h2.at_ j a v ha (by simpa using hv))))⟩
    cases f <;> first | exact h | exact absurd rfl (hf _)
  | makeMap t rv =>
    cases rv with
    | none => exact ⟨_, _, h, (g_makeMap hR t).op⟩
    | some x => simp [doOp] at h
  | makeSlice t l c =>
    obtain ⟨v, s, h1, h2⟩ := two_some h
    exact ⟨_, _, h2, (g_makeSlice hS.tab hR h1 (hev l) (hev c)).op⟩
  | slice t x lo hi mx =>
    have ho : ∀ x : Option Operand, OVR G (x.map ev) (x.map ρ) := by
      intro x
      cases x with
      | none => exact .inl ⟨rfl, rfl⟩
      | some y => exact .inr ⟨_, _, rfl, rfl, hev y⟩
    simp only [doOp] at h
    obtain ⟨v, h1, h2⟩ := g_slice hS.tab hR h (hev x) (ho lo) (ho hi) (ho mx)
    exact ⟨_, _, h1, h2.op⟩
  | fieldAddr s x f =>
    obtain ⟨v, h1, h2⟩ := one_some h
    exact ⟨_, _, h2, (g_fieldAddr hS.tab hR h1 (hev x)).op⟩
  | field s x f =>
    obtain ⟨v, h1, h2⟩ := one_some h
    exact ⟨_, _, h2, (g_field hS.tab hR h1 (hev x)).op⟩
  | indexAddr t x i =>
    obtain ⟨v, h1, h2⟩ := one_some h
    exact ⟨_, _, h2, (g_indexAddr hS.tab hR h1 (hev x) (hev i)).op⟩
  | index t x i =>
    simp only [doOp] at h
    obtain ⟨v, h1, h2⟩ := g_index hS.tab hR h (hev x) (hev i)
    exact ⟨_, _, h1, h2.op⟩
  | lookup t m key ok =>
    obtain ⟨v, h1, h2⟩ := one_some h
    exact ⟨_, _, h2, (g_lookup hS.tab hR h1 (hev m) (hev key)).op⟩
  | mapUpdate t m key v =>
    obtain ⟨s, h1, h2⟩ := unit_some h
    exact ⟨_, _, h2, (g_mapSet hS.tab hR h1 (hev m) (hev key) (hev v)).op⟩
  | insert t m key v =>
    obtain ⟨s, h1, h2⟩ := unit_some h
    exact ⟨_, _, h2, (g_mapSet hS.tab hR h1 (hev m) (hev key) (hev v)).op⟩
  | range t x =>
    simp only [doOp] at h
    obtain ⟨td, ht, h⟩ := bind_some h
    obtain ⟨_, d, _, hd, _, _, hk, _⟩ := (hS.tab t td ht).ok
    split at h
    · rename_i hs
      rw [hs] at hk
      obtain rfl := kk_str hk
      obtain ⟨s, h1, h⟩ := bind_some h
      have hx := hev x
      rw [asS_some h1] at hx
      have hv : ρ x = .string s := hx.str_inv
      refine ⟨_, _, h, ?_⟩
      have := (g_range hR hd s).op
      rw [← hv] at this
      exact this
    · cases h
  | next x b =>
    obtain ⟨v, s, h1, h2⟩ := two_some h
    exact ⟨_, _, h2, (g_next hR h1 (hev x) type).op⟩
  | typeAssert x xt t ok =>
    obtain ⟨v, h1, h2⟩ := one_some h
    exact ⟨_, _, h2, (g_assert hS.tab hR h1 (hev x)).op⟩
  | extract x i =>
    obtain ⟨v, h1, h2⟩ := one_some h
    exact ⟨_, _, h2, (g_ext hR h1 (hev x)).op⟩
  | panic x =>
    simp only [doOp] at h
    split at h
    · rename_i t v hx
      have hxv := hev x
      rw [hx] at hxv
      refine ⟨_, _, h, ?_⟩
      generalize hv : ρ x = xv at hxv
      have hrun : (execOp ρ ⟨dst, .panic x, type, pos, after, guard⟩).run P w = .halt (.panic xv) w := by
        cases hxv
        simp [execOp, hv, Instr.panic, goPanic]
      rw [hrun]
      exact ⟨G, Gh.le.refl G, hR, _, _, rfl, rfl, hxv⟩
    · cases h
  | call c =>
    obtain ⟨callee, args, argTypes⟩ := c
    have hargs : VRs G (args.toList.map ev) (args.map ρ).toList := by simpa using VRs.map hev args.toList
    cases callee with
    | builtin b =>
      obtain ⟨out, s, h1, h2⟩ := g_builtin hS hR (b := b) (ts := argTypes.toList) h hargs
      refine ⟨_, _, h1, ?_⟩
      simp only [execOp, resolve, invoke, Sem.run_bind, Sem.run_pure, Result.andThen_ok]
      exact h2 _ _
    | value f =>
      simp only [doOp] at h
      obtain ⟨⟨out, s⟩, h1, h2⟩ := bind_some h
      exact ⟨_, _, h2, g_invoke hS hC hI hGl hR h1 (hev f) hargs⟩
    | invoke recv m => simp [doOp] at h
  | _ => simp [doOp] at h

end

end Go.St
