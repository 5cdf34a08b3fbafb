/- The machine's run without a bound on its steps: its equations. -/
import Derived.Test.YtnjpbbiolngfkaaDoorStRun
namespace Go.St
set_option linter.unusedVariables false
set_option linter.unusedSimpArgs false

def Call.le (C D : Call) : Prop := ∀ f a s r, C f a s = some r → D f a s = some r
def Kle (K L : Kont) : Prop := ∀ c r, K c = some r → L c = some r

/-- C, K is what the chain Ck, Kk comes to. -/
structure Chain (Ck : Nat → Call) (C : Call) (Kk : Nat → Kont) (K : Kont) : Prop where
  up : ∀ k, Call.le (Ck k) (Ck (k + 1))
  sup : ∀ f a s r, C f a s = some r → ∃ k, Ck k f a s = some r
  kup : ∀ k, Kle (Kk k) (Kk (k + 1))
  ksup : ∀ c r, K c = some r → ∃ k, Kk k c = some r

theorem Chain.ups {Ck : Nat → Call} {C : Call} {Kk : Nat → Kont} {K : Kont} (h : Chain Ck C Kk K) {i j : Nat} (hij : i ≤ j) : Call.le (Ck i) (Ck j) := by
  induction hij with
  | refl => exact fun _ _ _ _ h => h
  | step _ ih => exact fun f a s r hh => h.up _ f a s r (ih f a s r hh)
theorem Chain.kups {Ck : Nat → Call} {C : Call} {Kk : Nat → Kont} {K : Kont} (h : Chain Ck C Kk K) {i j : Nat} (hij : i ≤ j) : Kle (Kk i) (Kk j) := by
  induction hij with
  | refl => exact fun _ _ h => h
  | step _ ih => exact fun c r hh => h.kup _ c r (ih c r hh)

structure Cont {α : Type} (F : Call → Kont → Option α) : Prop where
  mono : ∀ {C D : Call} {K L : Kont}, Call.le C D → Kle K L → ∀ r, F C K = some r → F D L = some r
  fin : ∀ {Ck : Nat → Call} {C : Call} {Kk : Nat → Kont} {K : Kont}, Chain Ck C Kk K → ∀ r, F C K = some r → ∃ k, F (Ck k) (Kk k) = some r

theorem Cont.const {α : Type} (x : Option α) : Cont fun _ _ => x := ⟨fun _ _ _ h => h, fun _ _ h => ⟨0, h⟩⟩
theorem Cont.call (f : FuncId) (a : List AV) (s : Sto) : Cont fun C _ => C f a s := ⟨fun h _ r hr => h f a s r hr, fun h r hr => h.sup f a s r hr⟩
theorem Cont.kont (c : Cfg) : Cont fun _ K => K c := ⟨fun _ h r hr => h c r hr, fun h r hr => h.ksup c r hr⟩
theorem Cont.bind {α β : Type} {F : Call → Kont → Option α} {G : α → Call → Kont → Option β} (hF : Cont F) (hG : ∀ x, Cont (G x)) : Cont fun C K => (F C K).bind fun x => G x C K := by
  refine ⟨fun {C D K L} h hk r hr => ?_, fun {Ck C Kk K} h r hr => ?_⟩
  · cases hx : F C K with
    | none => simp [hx] at hr
    | some x => simp only [hx, Option.bind_some] at hr; simp only [hF.mono h hk x hx, Option.bind_some]; exact (hG x).mono h hk r hr
  · cases hx : F C K with
    | none => simp [hx] at hr
    | some x =>
      simp only [hx, Option.bind_some] at hr
      obtain ⟨k1, h1⟩ := hF.fin h x hx
      obtain ⟨k2, h2⟩ := (hG x).fin h r hr
      refine ⟨max k1 k2, ?_⟩
      simp only [hF.mono (h.ups (Nat.le_max_left k1 k2)) (h.kups (Nat.le_max_left k1 k2)) x h1, Option.bind_some]
      exact (hG x).mono (h.ups (Nat.le_max_right k1 k2)) (h.kups (Nat.le_max_right k1 k2)) r h2
theorem Cont.ite {α : Type} {p : Prop} [Decidable p] {F G : Call → Kont → Option α} (hF : Cont F) (hG : Cont G) : Cont fun C K => if p then F C K else G C K := by
  by_cases h : p <;> simp only [h, if_true, if_false] <;> assumption
theorem Cont.bif {α : Type} {p : Bool} {F G : Call → Kont → Option α} (hF : Cont F) (hG : Cont G) : Cont fun C K => bif p then F C K else G C K := by
  cases p <;> simp only [cond_true, cond_false] <;> assumption
theorem Cont.on {α : Type} {o : Out} {F G : AV → Call → Kont → Option α} (hF : ∀ v, Cont (F v)) (hG : ∀ v, Cont (G v)) : Cont fun C K => o.on (fun v => F v C K) (fun v => G v C K) := by
  cases o with
  | ret v => exact hF v
  | pan v => exact hG v

section
variable {R : Type}
theorem cont_one {r : Option AV} {st : Sto} {k : Call → Kont → Out → Sto → Option R} (h : ∀ o s, Cont fun C K => k C K o s) : Cont fun C K => one r st (k C K) :=
  Cont.bind (Cont.const r) fun v => h _ _
theorem cont_two {r : Option (AV × Sto)} {k : Call → Kont → Out → Sto → Option R} (h : ∀ o s, Cont fun C K => k C K o s) : Cont fun C K => two r (k C K) :=
  Cont.bind (Cont.const r) fun v => h _ _
theorem cont_unit {r : Option Sto} {k : Call → Kont → Out → Sto → Option R} (h : ∀ o s, Cont fun C K => k C K o s) : Cont fun C K => unit r (k C K) :=
  Cont.bind (Cont.const r) fun v => h _ _
theorem cont_guardK (ops : Array Oper) (o : Oper) (env : List AV) {y n : Call → Kont → List AV → Option R} (hy : ∀ e, Cont fun C K => y C K e) (hn : ∀ e, Cont fun C K => n C K e) :
    Cont fun C K => guardK ops o env (y C K) (n C K) := by
  unfold guardK
  split
  · exact hy _
  · split
    · exact hn _
    · split
      · refine Cont.bind (Cont.const _) fun g => ?_
        cases g with
        | none => exact hn _
        | some b => exact Cont.bif (Cont.bif (hy _) (hn _)) (Cont.bif (hn _) (hy _))
      · exact hn _
theorem cont_binI {op : BinOp} {ik : IntKind} {x y : Int} {c : Call → Kont → AV → Option R} (h : ∀ v, Cont fun C K => c C K v) : Cont fun C K => binI op ik x y (c C K) := by
  cases op <;> simp only [binI] <;> first | exact h _ | exact Cont.ite (Cont.const _) (h _)
theorem cont_binS {op : BinOp} {x y : ByteArray} {c : Call → Kont → AV → Option R} (h : ∀ v, Cont fun C K => c C K v) : Cont fun C K => binS op x y (c C K) := by
  cases op <;> simp only [binS] <;> first | exact h _ | exact Cont.ite (h _) (Cont.const _) | exact Cont.const _
theorem cont_binK {td : TD} {flat : List FK} {lit : Bool} {op : BinOp} {x y : AV} {c : Call → Kont → AV → Option R} (h : ∀ v, Cont fun C K => c C K v) : Cont fun C K => binK td flat lit op x y (c C K) := by
  unfold binK
  split
  · refine Cont.bind (Cont.const _) fun a => ?_
    split <;> exact Cont.bind (Cont.const _) fun b => cont_binI h
  · exact Cont.bind (Cont.const _) fun a => Cont.bind (Cont.const _) fun b => cont_binS h
  · split
    · exact Cont.bind (Cont.const _) fun b => h _
    · exact Cont.bind (Cont.const _) fun b => h _
    · exact Cont.const _
theorem cont_unK {td : TD} {op : UnOp} {x : AV} {c : Call → Kont → AV → Option R} (h : ∀ v, Cont fun C K => c C K v) : Cont fun C K => unK td op x (c C K) := by
  unfold unK
  split
  · split
    · exact Cont.bind (Cont.const _) fun b => h _
    · exact Cont.const _
  · split
    · exact Cont.bind (Cont.const _) fun b => h _
    · exact Cont.const _
  · exact Cont.bind (Cont.const _) fun b => h _
  · exact Cont.const _
theorem cont_convK {A : AProg} {wr : Bool} {src dst : TypeId} {x : AV} {st : Sto} {k : Call → Kont → Out → Sto → Option R} (h : ∀ o s, Cont fun C K => k C K o s) : Cont fun C K => convK A wr src dst x st (k C K) := by
  unfold convK
  refine Cont.bind (Cont.const _) fun ts => Cont.bind (Cont.const _) fun td => ?_
  split
  · exact Cont.bind (Cont.const _) fun n => h _ _
  · split
    · refine Cont.bind (Cont.const _) fun te => ?_
      split
      · exact Cont.bind (Cont.const _) fun n => h _ _
      · exact Cont.const _
    · exact Cont.bind (Cont.const _) fun n => h _ _
    · exact Cont.bind (Cont.const _) fun n => h _ _
  · split
    · refine Cont.bind (Cont.const _) fun te => ?_
      split
      · exact Cont.bind (Cont.const _) fun n => cont_two h
      · exact Cont.const _
    · refine Cont.ite (Cont.bind (Cont.const _) fun te => ?_) (Cont.const _)
      split
      · exact Cont.bind (Cont.const _) fun n => h _ _
      · exact Cont.const _
    · exact Cont.const _
  · exact Cont.const _
theorem cont_sliceK {A : AProg} {t : TypeId} {x : AV} {lo hi mx : Option AV} {st : Sto} {c : Call → Kont → AV → Option R} (h : ∀ v, Cont fun C K => c C K v) : Cont fun C K => sliceK A t x lo hi mx st (c C K) := by
  unfold sliceK
  split
  · exact Cont.const _
  · refine Cont.bind (Cont.const _) fun td => ?_
    split
    · exact Cont.bind (Cont.const _) fun _ => Cont.bind (Cont.const _) fun _ => Cont.bind (Cont.const _) fun _ => h _
    · exact Cont.bind (Cont.const _) fun _ => Cont.bind (Cont.const _) fun _ => h _
    · exact Cont.bind (Cont.const _) fun _ => Cont.bind (Cont.const _) fun _ => h _
    · exact Cont.const _
theorem cont_indexK {A : AProg} {t : TypeId} {x i : AV} {c : Call → Kont → AV → Option R} (h : ∀ v, Cont fun C K => c C K v) : Cont fun C K => indexK A t x i (c C K) := by
  unfold indexK
  refine Cont.bind (Cont.const _) fun td => ?_
  split
  · exact Cont.bind (Cont.const _) fun _ => Cont.bind (Cont.const _) fun _ => Cont.bind (Cont.const _) fun _ => h _
  · exact Cont.bind (Cont.const _) fun _ => Cont.bind (Cont.const _) fun _ => h _
  · exact Cont.const _
theorem cont_lenK {A : AProg} {t : TypeId} {x : AV} {st : Sto} {c : Call → Kont → AV → Option R} (h : ∀ v, Cont fun C K => c C K v) : Cont fun C K => lenK A t x st (c C K) := by
  unfold lenK
  refine Cont.bind (Cont.const _) fun td => ?_
  split
  · exact Cont.bind (Cont.const _) fun _ => h _
  · exact h _
  · exact Cont.bind (Cont.const _) fun _ => h _
  · exact Cont.bind (Cont.const _) fun _ => h _
  · exact Cont.const _
theorem cont_pickK {x a b : AV} {c : Call → Kont → AV → Option R} (h : ∀ v, Cont fun C K => c C K v) : Cont fun C K => pickK x a b (c C K) := by
  unfold pickK
  exact Cont.bind (Cont.const _) fun t => Cont.bif (Cont.bind (Cont.const _) fun _ => h _) (Cont.bind (Cont.const _) fun _ => h _)
theorem cont_builtinK (A : AProg) (wr : Bool) (b : Builtin) (ts : List TypeId) (args : List AV) (st : Sto) {k : Call → Kont → Out → Sto → Option R} (h : ∀ o s, Cont fun C K => k C K o s) :
    Cont fun C K => builtinK A wr b ts args st (k C K) := by
  unfold builtinK
  split
  · exact cont_lenK fun v => h _ _
  · exact cont_two h
  · exact Cont.bind (Cont.const _) fun _ => Cont.bind (Cont.const _) fun _ => h _ _
  · exact Cont.bind (Cont.const _) fun _ => Cont.bind (Cont.const _) fun _ => h _ _
  · exact Cont.const _
theorem cont_callA (A : AProg) (f : FuncId) (args : List AV) (st : Sto) : Cont fun C _ => callA A C f args st := by
  unfold callA
  cases assoc f A.prims with
  | none => exact Cont.bif (Cont.const _) (Cont.call _ _ _)
  | some p => exact Cont.const _
theorem cont_invokeA (A : AProg) (f : AV) (args : List AV) (st : Sto) : Cont fun C _ => invokeA A C f args st := by
  unfold invokeA
  split
  · exact cont_callA _ _ _ _
  · exact Cont.call _ _ _
  · exact Cont.const _
theorem cont_rangeA (A : AProg) (f : AV) (args : List AV) (st : Sto) : Cont fun C _ => rangeA A C f args st := by
  unfold rangeA
  split
  · rename_i f first cap
    cases assoc f A.prims with
    | none => exact Cont.bif (Cont.const _) (Cont.call _ _ _)
    | some p => exact Cont.const _
  · exact Cont.const _
theorem cont_doOp (A : AProg) (wr : Bool) (ev : Operand → AV) (o : Oper) (st : Sto) {k : Call → Kont → Out → Sto → Option R} (h : ∀ o s, Cont fun C K => k C K o s) :
    Cont fun C K => doOp A C wr ev o st (k C K) := by
  unfold doOp
  cases o.op with
  | call c =>
    simp only
    cases hc : c.callee with
    | value f => simp only; exact Cont.bind (cont_invokeA _ _ _ _) fun x => h _ _
    | invoke r m => exact Cont.const _
    | builtin b => simp only; exact cont_builtinK _ _ _ _ _ _ h
  | move x => exact h _ _
  | assign x => exact h _ _
  | alloc t => exact Cont.bind (Cont.const _) fun td => Cont.ite (h _ _) (h _ _)
  | load t a => exact Cont.bind (Cont.const _) fun td => cont_one h
  | store t a x => exact Cont.bind (Cont.const _) fun td => cont_unit h
  | box t x => exact Cont.ite (h _ _) (Cont.const _)
  | range t x =>
    refine Cont.bind (Cont.const _) fun td => ?_
    split
    · exact Cont.bind (Cont.const _) fun s => h _ _
    · exact Cont.const _
  | makeInterface t x =>
    refine Cont.bind (Cont.const _) fun td => ?_
    split
    · exact Cont.const _
    · exact h _ _
  | makeFunc f a b =>
    simp only
    split
    · exact Cont.const _
    · exact h _ _
  | makeMap t r =>
    cases r with
    | none => exact h _ _
    | some x => exact Cont.const _
  | pick c a b => exact cont_pickK fun v => h _ _
  | binOp op t x y z => exact Cont.bind (Cont.const _) fun td => cont_binK fun v => h _ _
  | unOp op t x => exact Cont.bind (Cont.const _) fun td => cont_unK fun v => h _ _
  | convert s d x => exact cont_convK h
  | slice t x lo hi mx => exact cont_sliceK fun v => h _ _
  | index t x i => exact cont_indexK fun v => h _ _
  | panic x =>
    simp only
    split
    · exact h _ _
    · exact Cont.const _
  | _ => first | exact cont_one h | exact cont_two h | exact cont_unit h | exact Cont.const _

theorem cont_runOps (A : AProg) (nt : Note) (rid : Nat) (ops : Array Oper) {kn : Call → Kont → List AV → Sto → Option R} {kp : Call → Kont → AV → Sto → Option R}
    (hn : ∀ e s, Cont fun C K => kn C K e s) (hp : ∀ v s, Cont fun C K => kp C K v s) :
    ∀ (l : List Oper) (i : Nat) (env : List AV) (st : Sto), Cont fun C K => runOps A C nt rid ops (kn C K) (kp C K) l i env st := by
  intro l
  induction l with
  | nil => intro i env st; exact hn _ _
  | cons o r ih =>
    intro i env st
    simp only [runOps]
    exact cont_guardK _ _ _ (fun e => cont_doOp _ _ _ _ _ fun o s => Cont.on (fun v => ih _ _ _) (fun v => hp _ _)) (fun e => ih _ _ _)

open Classical in
theorem cont_again (A : AProg) (nt : Note) (rid : Nat) (st : Sto) {k : Call → Kont → Option R} (h : Cont k) : ∀ l : List Rd, Cont fun C K => again A C nt rid st (k C K) l := by
  intro l
  induction l with
  | nil => exact h
  | cons r l ih => simp only [again]; exact cont_doOp _ _ _ _ _ fun o s => Cont.ite ih (Cont.const _)
open Classical in
theorem cont_alike (A : AProg) (w : Bool) (env : List AV) (o : Oper) (out : Out) {k : Call → Kont → Option R} (h : Cont k) : ∀ l : List Sto, Cont fun C K => alike A C w env o out (k C K) l := by
  intro l
  induction l with
  | nil => exact h
  | cons r l ih => simp only [alike]; exact cont_doOp _ _ _ _ _ fun o s => Cont.ite ih (Cont.const _)

open Classical in
theorem cont_drawOp (A : AProg) (nt : Note) (rid : Nat) (ops : Array Oper) (b : Array Nat) (o : Oper) (i : Nat) (d : DS) {k : Call → Kont → DS → Option R} (h : ∀ d, Cont fun C K => k C K d) :
    Cont fun C K => drawOp A C nt rid ops b o i d (k C K) := by
  unfold drawOp
  refine cont_guardK _ _ _ (fun e => ?_) (fun e => h _)
  cases kindOf nt rid i o with
  | pure => exact cont_doOp _ _ _ _ _ fun o s => Cont.on (fun v => h _) (fun v => Cont.const _)
  | look => exact cont_doOp _ _ _ _ _ fun o s => Cont.on (fun v => cont_alike _ _ _ _ _ (h _) _) (fun v => Cont.const _)
  | read => exact cont_doOp _ _ _ _ _ fun o s => Cont.on (fun v => Cont.ite (cont_alike _ _ _ _ _ (h _) _) (Cont.const _)) (fun v => Cont.const _)
  | act => exact Cont.bif (cont_doOp _ _ _ _ _ fun o s => Cont.on (fun v => cont_again _ _ _ _ (h _) _) (fun v => Cont.const _)) (Cont.const _)

theorem cont_drawOps (A : AProg) (nt : Note) (rid : Nat) (ops : Array Oper) (b : Array Nat) {k : Call → Kont → DS → Option R} (h : ∀ d, Cont fun C K => k C K d) :
    ∀ (l : List Oper) (i : Nat) (d : DS), Cont fun C K => drawOps A C nt rid ops b (k C K) l i d := by
  intro l
  induction l with
  | nil => intro i d; exact h _
  | cons o r ih => intro i d; simp only [drawOps]; exact cont_drawOp _ _ _ _ _ _ _ _ fun d' => ih _ _
theorem cont_runDraw (A : AProg) (nt : Note) (rid : Nat) (ops : Array Oper) {kn : Call → Kont → List AV → Sto → Option R} {kp : Call → Kont → AV → Sto → Option R}
    (hn : ∀ e s, Cont fun C K => kn C K e s) (hp : ∀ v s, Cont fun C K => kp C K v s) (env : List AV) (st : Sto) : Cont fun C K => runDraw A C nt rid ops (kn C K) (kp C K) env st := by
  unfold runDraw
  exact Cont.bif (cont_drawOps _ _ _ _ _ (fun d => hn _ _) _ _ _) (Cont.const _)
end

/-! ### A step is continuous -/
theorem cont_exitK {R : Type} {id : Nat} {yes : Call → Kont → List AItem → Option R} {no : Call → Kont → Option R} (hy : ∀ t, Cont fun C K => yes C K t) (hn : Cont no) : ∀ t : List AItem, Cont fun C K => exitK id (yes C K) (no C K) t := by
  intro t
  induction t with
  | nil => exact hn
  | cons x t ih =>
    cases x with
    | blk i => simp only [exitK]; exact Cont.bif (hy t) ih
    | _ => exact ih
theorem cont_jOn {R : Type} (j : Option Code) {n r : Call → Kont → Option R} {x : Call → Kont → Nat → Option R} (hn : Cont n) (hr : Cont r) (hx : ∀ id, Cont fun C K => x C K id) : Cont fun C K => jOn j (n C K) (r C K) (x C K) := by
  unfold jOn
  split
  · exact hn
  · exact hr
  · exact hx _
  · exact Cont.const _
theorem cont_stepF (A : AProg) (c : Cfg) : Cont fun C K => stepF A C K c := by
  unfold stepF
  split
  · split
    · exact Cont.const _
    · exact Cont.const _
  · exact Cont.bind (Cont.const _) fun _ => Cont.bind (Cont.const _) fun _ => Cont.kont _
  · exact Cont.kont _
  · exact Cont.kont _
  · exact Cont.kont _
  · rename_i p code t e
    cases code with
    | skip => exact Cont.kont _
    | label l => exact Cont.kont _
    | ret => exact Cont.const _
    | seq a b => exact Cont.kont _
    | cond x a b =>
      exact Cont.bind (Cont.const _) fun q => Cont.bif (Cont.kont _) (Cont.kont _)
    | block id b => exact Cont.kont _
    | loop b => exact Cont.kont _
    | scope b => exact Cont.kont _
    | exit id => exact cont_exitK (fun _ => Cont.kont _) (Cont.const _) _
    | goto l => exact Cont.bind (Cont.const _) fun _ => Cont.kont _
    | region rid ops draw => exact Cont.bif (Cont.bif (cont_runDraw _ _ _ _ (kp := fun _ _ => panA c) (fun _ _ => Cont.kont _) (fun _ _ => Cont.const _) _ _) (Cont.const _)) (cont_runOps _ _ _ _ (kp := fun _ _ => panA c) (fun _ _ => Cont.kont _) (fun _ _ => Cont.const _) _ _ _ _)
    | rangeFunc f ps a b =>
      cases c.rd with
      | some _ => exact Cont.const _
      | none => exact Cont.bind (cont_rangeA _ _ _ _) fun x => Cont.on (fun v => Cont.bind (Cont.const _) fun y => cont_jOn _ (Cont.kont _) (Cont.const _) fun id => cont_exitK (fun _ => Cont.kont _) (Cont.const _) _) (fun v => Cont.const _)
    | refuse w => exact Cont.const _

theorem callK_le {A : AProg} {i j : Nat} (h : Kle (run A i) (run A j)) : Call.le (callK A i) (callK A j) := by
  intro f a s r hr
  unfold callK at *
  cases he : entry A f a s with
  | none => simp [he] at hr
  | some c =>
    simp only [he, Option.bind_some] at hr ⊢
    cases hx : run A i c with
    | none => simp [hx] at hr
    | some x => rw [h c x hx]; simpa [hx] using hr

theorem run_up (A : AProg) : ∀ k, Kle (run A k) (run A (k + 1)) := by
  intro k
  induction k with
  | zero => intro c r h; simp [run] at h
  | succ k ih => intro c r h; exact (cont_stepF A c).mono (callK_le ih) ih r h

/-! ### The limit -/
open Classical in
noncomputable def Run (A : AProg) : Kont := fun c => if h : ∃ r, ∃ k, run A k c = some r then some (Classical.choose h) else none
noncomputable def CallR (A : AProg) : Call := fun f args st => (entry A f args st).bind fun c => (Run A c).bind fun r => some (gcK (A.mode f) st (r.out, r.st))

theorem run_ups (A : AProg) {i j : Nat} (h : i ≤ j) : Kle (run A i) (run A j) := by
  induction h with
  | refl => exact fun _ _ h => h
  | step _ ih => exact fun c r hh => run_up A _ c r (ih c r hh)
theorem run_det (A : AProg) {i j : Nat} {c : Cfg} {r s : Res} (h : run A i c = some r) (h' : run A j c = some s) : r = s := by
  have a := run_ups A (Nat.le_max_left i j) c r h
  have b := run_ups A (Nat.le_max_right i j) c s h'
  rw [a] at b
  exact Option.some.inj b
theorem Run_iff (A : AProg) (c : Cfg) (r : Res) : Run A c = some r ↔ ∃ k, run A k c = some r := by
  unfold Run
  constructor
  · intro h
    split at h
    · rename_i hx
      obtain ⟨k, hk⟩ := Classical.choose_spec hx
      exact ⟨k, by rw [hk]; exact h⟩
    · simp at h
  · rintro ⟨k, hk⟩
    have hx : ∃ r, ∃ k, run A k c = some r := ⟨r, k, hk⟩
    rw [dif_pos hx]
    obtain ⟨j, hj⟩ := Classical.choose_spec hx
    rw [run_det A hj hk]
theorem callK_CallR (A : AProg) (k : Nat) : Call.le (callK A k) (CallR A) := by
  intro f a s r h
  unfold callK at h; unfold CallR
  cases he : entry A f a s with
  | none => simp [he] at h
  | some c =>
    simp only [he, Option.bind_some] at h ⊢
    cases hx : run A k c with
    | none => simp [hx] at h
    | some x => rw [(Run_iff A c x).2 ⟨k, hx⟩]; simpa [hx] using h
theorem CallR_callK (A : AProg) {f : FuncId} {a : List AV} {s : Sto} {r : Out × Sto} (h : CallR A f a s = some r) : ∃ k, callK A k f a s = some r := by
  unfold CallR at h
  cases he : entry A f a s with
  | none => simp [he] at h
  | some c =>
    simp only [he, Option.bind_some] at h
    cases hx : Run A c with
    | none => simp [hx] at h
    | some x =>
      obtain ⟨k, hk⟩ := (Run_iff A c x).1 hx
      exact ⟨k, by unfold callK; simp only [he, Option.bind_some, hk]; simpa [hx] using h⟩
theorem chain_run (A : AProg) : Chain (callK A) (CallR A) (run A) (Run A) :=
  ⟨fun k => callK_le (run_up A k), fun _ _ _ _ h => CallR_callK A h, run_up A, fun c r h => (Run_iff A c r).1 h⟩

theorem Run_eq (A : AProg) (c : Cfg) : Run A c = stepF A (CallR A) (Run A) c := by
  have key : ∀ r, Run A c = some r ↔ stepF A (CallR A) (Run A) c = some r := by
    intro r
    constructor
    · intro h
      obtain ⟨k, hk⟩ := (Run_iff A c r).1 h
      cases k with
      | zero => simp [run] at hk
      | succ k => exact (cont_stepF A c).mono (C := callK A k) (callK_CallR A k) (fun c r h => (Run_iff A c r).2 ⟨k, h⟩) r hk
    · intro h
      obtain ⟨k, hk⟩ := (cont_stepF A c).fin (chain_run A) r h
      exact (Run_iff A c r).2 ⟨k + 1, hk⟩
  cases h : Run A c with
  | none =>
    cases h' : stepF A (CallR A) (Run A) c with
    | none => rfl
    | some r => rw [(key r).2 h'] at h; cases h
  | some r => exact ((key r).1 h).symm

/-- A round. -/
theorem CallR_round (A : AProg) (id : Nat) (args : List AV) (st : Sto) (l : ALoop) (h : st[id]? = some (.loop l)) (hf : (assoc l.fn A.fns).isSome = true) (hl : Nat.beq args.length l.params.length = true) :
    CallR A rnd (.yl id :: args) st = (Run A { f := l.fn, todo := [.code (1 :: l.path) l.assign, .begin, .code (0 :: l.path) l.body], env := setAll l.env l.params args, dfr := [], rc := none, st := st, rd := some id }).bind fun r => some (gcK (A.mode rnd) st (r.out, r.st)) := by
  obtain ⟨fn, hfn⟩ := Option.isSome_iff_exists.1 hf
  have hb : Nat.beq rnd rnd = true := by decide
  unfold CallR entry
  rw [hb]
  simp only [cond_true, entryR, h, hfn, Option.bind_some, hl]

/-! ### Unrolling -/
theorem keep_keep (l : List Nat) : ∀ (i : Nat) (env : List AV), keep l i (keep l i env) = keep l i env := by
  intro i env
  induction env generalizing i with
  | nil => rfl
  | cons v r ih =>
    simp only [keep, ih]
    cases l.contains i <;> rfl
theorem keepAt_keepAt (nt : Note) (p : Path) (env : List AV) : nt.keepAt p (nt.keepAt p env) = nt.keepAt p env := by
  unfold Note.keepAt
  cases assocP p nt.keeps with
  | none => rfl
  | some l => exact keep_keep l 0 env

/-- Only what is kept is told. -/
def canon (A : AProg) (c : Cfg) : Cfg :=
  match c.todo with
  | .code p _ :: _ => { c with env := (A.note c.f).keepAt p c.env }
  | _ => c
theorem Run_canon (A : AProg) (c : Cfg) : Run A (canon A c) = Run A c := by
  rw [Run_eq A c, Run_eq A (canon A c)]
  obtain ⟨f, todo, env, dfr, rc, st⟩ := c
  unfold canon
  split
  · rename_i p code t e
    simp only at e
    subst e
    unfold stepF
    simp only [keepAt_keepAt]
    rfl
  · rfl

/-- Does the unrolling stop here? -/
def stopsAt (A : AProg) (c : Cfg) : Bool :=
  match c.todo with
  | .code p _ :: _ => (A.note c.f).stops.contains p
  | _ => false

noncomputable def unroll (A : AProg) : Nat → Bool → Kont
  | 0, _, c => Run A c
  | n + 1, first, c => bif !first && stopsAt A c then Run A (canon A c) else stepF A (CallR A) (unroll A n false) c

theorem unroll_eq (A : AProg) : ∀ n b, unroll A n b = Run A := by
  intro n
  induction n with
  | zero => intro b; funext c; rfl
  | succ n ih =>
    intro b
    funext c
    unfold unroll
    cases !b && stopsAt A c with
    | true => exact Run_canon A c
    | false => simp only [cond_false]; rw [ih false]; exact (Run_eq A c).symm

theorem Run_unroll (A : AProg) (n : Nat) (c : Cfg) : Run A c = unroll A n true c := by rw [unroll_eq]

/-! ### Places in a function's code -/
def subC : Code → List Nat → Code
  | c, [] => c
  | .seq a b, i :: r => if i = 0 then subC a r else subC b r
  | .cond _ a b, i :: r => if i = 0 then subC a r else subC b r
  | .block _ a, _ :: r => subC a r
  | .loop a, _ :: r => subC a r
  | .rangeFunc _ _ a b, i :: r => if i = 0 then subC b r else subC a r
  | .scope a, _ :: r => subC a r
  | c, _ => c
def codeAt (A : AProg) (f : FuncId) (p : Path) : Code := match assoc f A.fns with
  | some fn => match fn.body with
    | some c => subC c p.reverse
    | none => .skip
  | none => .skip
/-- The code at a place. -/
def cI (A : AProg) (f : FuncId) (p : Path) : AItem := .code p (codeAt A f p)
/-- The loop at a place. -/
def lI (A : AProg) (f : FuncId) (p : Path) : AItem := .lp p (codeAt A f (0 :: p))
def sI (A : AProg) (f : FuncId) (p : Path) : AItem := .scope p (codeAt A f (0 :: p))

end Go.St
