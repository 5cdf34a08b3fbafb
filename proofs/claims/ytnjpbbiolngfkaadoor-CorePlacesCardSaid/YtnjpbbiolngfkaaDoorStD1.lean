/- Operations: what follows, what they look at. -/
import Derived.Test.YtnjpbbiolngfkaaDoorStLim
namespace Go.St
set_option linter.unusedVariables false
set_option linter.unusedSimpArgs false

theorem bind_assoc' {α β γ : Type} (x : Option α) (f : α → Option β) (g : β → Option γ) : (x.bind f).bind g = x.bind fun a => (f a).bind g := by cases x <;> rfl

/-- What follows is taken as it comes. -/
def Ntr (F : (R : Type) → (Out → Sto → Option R) → Option R) : Prop := ∀ (R : Type) (k : Out → Sto → Option R), F R k = (F (Out × Sto) (fun o s => some (o, s))).bind fun x => k x.1 x.2
def NtrV (F : (R : Type) → (AV → Option R) → Option R) : Prop := ∀ (R : Type) (c : AV → Option R), F R c = (F AV some).bind c

theorem Ntr.k (o : Out) (s : Sto) : Ntr fun R k => k o s := fun R k => rfl
theorem Ntr.none : Ntr fun R k => none := fun R k => rfl
theorem Ntr.bind {α : Type} (x : Option α) {F : α → (R : Type) → (Out → Sto → Option R) → Option R} (h : ∀ a, Ntr (F a)) : Ntr fun R k => x.bind fun a => F a R k := by
  intro R k
  cases x with
  | none => rfl
  | some a => exact h a R k
theorem Ntr.ite {p : Prop} [Decidable p] {F G : (R : Type) → (Out → Sto → Option R) → Option R} (hF : Ntr F) (hG : Ntr G) : Ntr fun R k => if p then F R k else G R k := by
  intro R k
  by_cases h : p <;> simp only [h, if_true, if_false]
  · exact hF R k
  · exact hG R k
theorem NtrV.k (v : AV) : NtrV fun R c => c v := fun R c => rfl
theorem NtrV.none : NtrV fun R c => none := fun R c => rfl
theorem NtrV.bind {α : Type} (x : Option α) {F : α → (R : Type) → (AV → Option R) → Option R} (h : ∀ a, NtrV (F a)) : NtrV fun R c => x.bind fun a => F a R c := by
  intro R k
  cases x with
  | none => rfl
  | some a => exact h a R k
theorem NtrV.ite {p : Prop} [Decidable p] {F G : (R : Type) → (AV → Option R) → Option R} (hF : NtrV F) (hG : NtrV G) : NtrV fun R c => if p then F R c else G R c := by
  intro R k
  by_cases h : p <;> simp only [h, if_true, if_false]
  · exact hF R k
  · exact hG R k
theorem NtrV.bif {p : Bool} {F G : (R : Type) → (AV → Option R) → Option R} (hF : NtrV F) (hG : NtrV G) : NtrV fun R c => bif p then F R c else G R c := by
  intro R k
  cases p <;> simp only [cond_true, cond_false]
  · exact hG R k
  · exact hF R k
theorem NtrV.ntr {F : (R : Type) → (AV → Option R) → Option R} (h : NtrV F) (st : Sto) : Ntr fun R k => F R fun v => k (.ret v) st := by
  intro R k
  show F R (fun v => k (.ret v) st) = (F (Out × Sto) (fun v => some (.ret v, st))).bind fun x => k x.1 x.2
  rw [h R, h (Out × Sto), bind_assoc']
  rfl

theorem ntr_binI (op : BinOp) (ik : IntKind) (x y : Int) : NtrV fun R c => binI op ik x y c := by
  intro R c
  cases op <;> simp only [binI] <;> first | rfl | (split <;> rfl)
theorem ntr_binS (op : BinOp) (x y : ByteArray) : NtrV fun R c => binS op x y c := by
  intro R c
  cases op <;> simp only [binS] <;> first | rfl | (split <;> rfl)
theorem ntr_binK (td : TD) (flat : List FK) (lit : Bool) (op : BinOp) (x y : AV) : NtrV fun R c => binK td flat lit op x y c := by
  intro R c
  unfold binK
  split
  · rename_i ik _
    cases asI ik x with
    | none => rfl
    | some a =>
      simp only [Option.bind_some]
      split
      · cases asInt y with
        | none => rfl
        | some b => simp only [Option.bind_some]; exact ntr_binI _ ik a b R c
      · cases asInt y with
        | none => rfl
        | some b => simp only [Option.bind_some]; exact ntr_binI _ ik a b R c
      · cases asI ik y with
        | none => rfl
        | some b => simp only [Option.bind_some]; exact ntr_binI _ ik a b R c
  · exact NtrV.bind _ (F := fun a R c => (asS y).bind fun b => binS op a b c) (fun a => NtrV.bind _ (F := fun b R c => binS op a b c) fun b => ntr_binS _ _ _) R c
  · split
    · exact NtrV.bind _ (F := fun b R c => c (.bool b)) (fun b => NtrV.k _) R c
    · exact NtrV.bind _ (F := fun b R c => c (.bool (!b))) (fun b => NtrV.k _) R c
    · rfl
theorem ntr_unK (td : TD) (op : UnOp) (x : AV) : NtrV fun R c => unK td op x c := by
  intro R c
  unfold unK
  split
  · split
    · rename_i ik _; cases asI ik x <;> rfl
    · rfl
  · split
    · rename_i ik _; cases asI ik x <;> rfl
    · rfl
  · cases asB x <;> rfl
  · rfl
theorem ntr_sliceK (A : AProg) (t : TypeId) (x : AV) (lo hi mx : Option AV) (st : Sto) : NtrV fun R c => sliceK A t x lo hi mx st c := by
  intro R c
  unfold sliceK
  cases mx with
  | some _ => rfl
  | none =>
    cases ht : assoc t A.tab with
    | none => rfl
    | some td =>
      simp only [Option.bind_some]
      cases td.k with
      | str => cases asS x with
        | none => rfl
        | some s =>
          simp only [Option.bind_some]
          cases bnd s.size s.size hi with
          | none => rfl
          | some h =>
            simp only [Option.bind_some]
            cases bnd 0 h lo <;> rfl
      | slice e => cases he : assoc e A.tab with
        | none => simp only [he]; rfl
        | some te =>
          simp only [he, Option.bind_some]
          cases cutL te.size x lo hi <;> rfl
      | arr n e => cases he : assoc e A.tab with
        | none => simp only [he]; rfl
        | some te =>
          simp only [he, Option.bind_some]
          cases arrCut n te.size x lo hi st <;> rfl
      | _ => rfl
theorem ntr_indexK (A : AProg) (t : TypeId) (x i : AV) : NtrV fun R c => indexK A t x i c := by
  intro R c
  unfold indexK
  cases ht : assoc t A.tab with
  | none => rfl
  | some td =>
    simp only [Option.bind_some]
    cases td.k with
    | str => cases asS x with
      | none => rfl
      | some s =>
        simp only [Option.bind_some]
        cases asInt i with
        | none => rfl
        | some j =>
          simp only [Option.bind_some]
          cases idx j s.size <;> rfl
    | arr n e => cases he : assoc e A.tab with
      | none => simp only [he]; rfl
      | some te =>
        simp only [he, Option.bind_some]
        cases ixArr te.isAgg n te.size x i <;> rfl
    | _ => rfl
theorem ntr_lenK (A : AProg) (t : TypeId) (x : AV) (st : Sto) : NtrV fun R c => lenK A t x st c := by
  intro R c
  unfold lenK
  cases ht : assoc t A.tab with
  | none => rfl
  | some td =>
    simp only [Option.bind_some]
    cases td.k with
    | str => cases asS x <;> rfl
    | slice e => cases lenL x <;> rfl
    | map k e => cases lenM x st <;> rfl
    | _ => rfl
theorem ntr_pickK (x a b : AV) : NtrV fun R c => pickK x a b c := by
  intro R c
  unfold pickK
  cases asB x with
  | none => rfl
  | some t =>
    simp only [Option.bind_some]
    cases t
    · simp only [cond_false]; cases asB b <;> rfl
    · simp only [cond_true]; cases asB a <;> rfl

section
variable {A : AProg} {C : Call}
theorem ntr_one (r : Option AV) (st : Sto) : Ntr fun R k => one r st k := Ntr.bind r (F := fun v R k => k (.ret v) st) fun v => Ntr.k _ _
theorem ntr_two (r : Option (AV × Sto)) : Ntr fun R k => two r k := Ntr.bind r (F := fun v R k => k (.ret v.1) v.2) fun v => Ntr.k _ _
theorem ntr_unit (r : Option Sto) : Ntr fun R k => unit r k := Ntr.bind r (F := fun v R k => k (.ret (.tup [])) v) fun v => Ntr.k _ _
theorem ntr_convK (wr : Bool) (src dst : TypeId) (x : AV) (st : Sto) : Ntr fun R k => convK A wr src dst x st k := by
  intro R k
  unfold convK
  cases assoc src A.tab with
  | none => rfl
  | some ts =>
    cases assoc dst A.tab with
    | none => rfl
    | some td =>
      simp only [Option.bind_some]
      cases td.k with
      | int ik => cases asInt x <;> rfl
      | str => cases ts.k with
        | slice e => cases he : assoc e A.tab with
          | none => simp only [he]; rfl
          | some te =>
            simp only [he, Option.bind_some]
            cases te.k with
            | int kk => cases kk <;> first | rfl | (simp only; cases toText st x <;> rfl)
            | _ => rfl
        | str => cases asS x <;> rfl
        | _ => cases asInt x <;> rfl
      | slice e => cases ts.k with
        | str => cases he : assoc e A.tab with
          | none => simp only [he]; rfl
          | some te =>
            simp only [he, Option.bind_some]
            cases te.k with
            | int kk => cases kk <;> first | rfl | (simp only; cases asS x with
              | none => rfl
              | some s => exact ntr_two _ R k)
            | _ => rfl
        | slice e2 =>
          simp only
          split
          · cases he : assoc e A.tab with
            | none => rfl
            | some te =>
              simp only [Option.bind_some]
              cases te.k with
              | int kk => cases kk <;> first | rfl | (simp only; cases freezeA x st <;> rfl)
              | _ => rfl
          · rfl
        | _ => rfl
      | _ => rfl
theorem ntr_builtinK (wr : Bool) (b : Builtin) (ts : List TypeId) (args : List AV) (st : Sto) : Ntr fun R k => builtinK A wr b ts args st k := by
  intro R k
  unfold builtinK
  split
  · exact (ntr_lenK A _ _ st).ntr st R k
  · exact ntr_two _ R k
  · rename_i a b
    cases asI .i64 a with
    | none => rfl
    | some x => cases h : asI .i64 b <;> simp only [h] <;> rfl
  · rename_i a b
    cases asI .i64 a with
    | none => rfl
    | some x => cases h : asI .i64 b <;> simp only [h] <;> rfl
  · rfl

theorem doOp_ntr (wr : Bool) (ev : Operand → AV) (o : Oper) (st : Sto) : Ntr fun R k => doOp A C wr ev o st k := by
  intro R k
  unfold doOp
  cases o.op with
  | call c =>
    simp only
    cases hc : c.callee with
    | value f => simp only; exact Ntr.bind _ (F := fun (x : Out × Sto) R k => k x.1 x.2) (fun x => Ntr.k _ _) R k
    | invoke r m => rfl
    | builtin b => simp only; exact ntr_builtinK _ _ _ _ _ R k
  | move x => rfl
  | assign x => rfl
  | alloc t => exact Ntr.bind _ (F := fun (td : TD) R k => if t = A.bld then k (.ret (.mp st.length 0 0)) (st ++ [.bld ByteArray.empty]) else k (.ret (.mp st.length 0 0)) (st ++ [.cells 0 td.zero 0])) (fun td => Ntr.ite (Ntr.k _ _) (Ntr.k _ _)) R k
  | load t a => exact Ntr.bind _ (F := fun (td : TD) R k => one (ld td.isAgg td.size st (ev a)) st k) (fun td => ntr_one _ _) R k
  | store t a x => exact Ntr.bind _ (F := fun (td : TD) R k => unit (sto td.size st (ev a) (ev x)) k) (fun td => ntr_unit _) R k
  | box t x => exact Ntr.ite (p := (ev x).cells.all AV.isCell = true) (F := fun R k => k (.ret (.mp st.length 0 0)) (st ++ [.cells 0 (ev x).cells 0])) (G := fun R k => none) (Ntr.k _ _) Ntr.none R k
  | range t x =>
    simp only
    cases assoc t A.tab with
    | none => rfl
    | some td =>
      simp only [Option.bind_some]
      cases td.k with
      | str => cases asS (ev x) <;> rfl
      | _ => rfl
  | makeInterface t x =>
    simp only
    cases assoc t A.tab with
    | none => rfl
    | some td =>
      simp only [Option.bind_some]
      cases td.k <;> rfl
  | makeFunc f a b =>
    simp only
    cases f <;> rfl
  | makeMap t r => cases r <;> rfl
  | pick c a b => exact (ntr_pickK _ _ _).ntr st R k
  | binOp op t x y z => exact Ntr.bind _ (F := fun (td : TD) R k => binK td ((assoc t A.eqs).getD []) (isNilConst x || isNilConst y) op (ev x) (ev y) fun v => k (.ret v) st) (fun td => (ntr_binK _ _ _ _ _ _).ntr st) R k
  | unOp op t x => exact Ntr.bind _ (F := fun (td : TD) R k => unK td op (ev x) fun v => k (.ret v) st) (fun td => (ntr_unK _ _ _).ntr st) R k
  | convert s d x => exact ntr_convK _ _ _ _ _ R k
  | slice t x lo hi mx => exact (ntr_sliceK _ _ _ _ _ _ st).ntr st R k
  | index t x i => exact (ntr_indexK _ _ _ _).ntr st R k
  | panic x =>
    simp only
    split <;> rfl
  | _ => first | exact ntr_one _ _ R k | exact ntr_two _ R k | exact ntr_unit _ R k | rfl

/-- An operation, with nothing behind it. -/
def opR (A : AProg) (C : Call) (wr : Bool) (ev : Operand → AV) (o : Oper) (st : Sto) : Option (Out × Sto) := doOp A C wr ev o st fun o s => some (o, s)
theorem doOp_eq (wr : Bool) (ev : Operand → AV) (o : Oper) (st : Sto) {R : Type} (k : Out → Sto → Option R) : doOp A C wr ev o st k = (opR A C wr ev o st).bind fun x => k x.1 x.2 := doOp_ntr wr ev o st R k

/-- The guard's word, and the slots behind it. -/
def gvE (ops : Array Oper) (o : Oper) (env : List AV) : Option (Bool × List AV) := match o.guard with
  | none => some (true, env)
  | some (j, want) => match (ops[j]?).bind (·.dst) with
    | none => some (false, env)
    | some t => match env[t]? with
      | some v => (guardT v).bind fun g => gOn g (some (false, env.set t (.tup []))) fun b => bif b then (bif want then some (true, env.set t (.bool true)) else some (false, env.set t (.bool true)))
          else (bif want then some (false, env.set t (.bool false)) else some (true, env.set t (.bool false)))
      | none => some (false, env)
theorem guardK_eq' {R : Type} (ops : Array Oper) (o : Oper) (env : List AV) (yes no : List AV → Option R) : guardK ops o env yes no = (gvE ops o env).bind fun q => bif q.1 then yes q.2 else no q.2 := by
  unfold guardK gvE
  cases o.guard with
  | none => rfl
  | some p =>
    obtain ⟨j, want⟩ := p
    simp only
    cases (ops[j]?).bind (·.dst) with
    | none => rfl
    | some t =>
      simp only
      cases he : env[t]? with
      | none => rfl
      | some v =>
        simp only
        unfold guardT
        split
        · rename_i b
          simp only [Option.bind_some, gOn]
          cases b <;> cases want <;> rfl
        · rfl
        · rfl

/-! ### Operands -/
theorem opR_congr {wr : Bool} {ev ev' : Operand → AV} {o : Oper} (h : ∀ x ∈ o.op.operands.toList, ev x = ev' x) (st : Sto) : opR A C wr ev o st = opR A C wr ev' o st := by
  unfold opR doOp
  cases ho : o.op with
  | call c =>
    rw [ho] at h
    simp only [Op.operands, Call.operands] at h
    simp only
    cases hc : c.callee with
    | value f =>
      simp only [hc, Array.toList_append, List.mem_append] at h ⊢
      rw [h f (.inl (by simp)), List.map_congr_left fun x hx => h x (.inr hx)]
    | invoke r m => rfl
    | builtin b =>
      simp only [hc, Array.toList_append, List.mem_append] at h ⊢
      rw [List.map_congr_left fun x hx => h x (.inr hx)]
  | build t ps =>
    rw [ho] at h
    simp only [Op.operands] at h
    simp only
    rw [List.map_congr_left (g := fun x => (x.1, ev' x.2)) fun x hx => by rw [h x.2 (by simp; exact ⟨x.1, by simpa using hx⟩)]]
  | buildSlice t n ps =>
    rw [ho] at h
    simp only [Op.operands] at h
    simp only
    rw [List.map_congr_left (g := fun x => (x.1, ev' x.2)) fun x hx => by rw [h x.2 (by simp; exact ⟨x.1, by simpa using hx⟩)]]
  | makeFunc f a b =>
    rw [ho] at h
    simp only [Op.operands, Array.toList_append, List.mem_append] at h
    simp only
    rw [List.map_congr_left fun x hx => h x (.inl hx), List.map_congr_left fun x hx => h x (.inr hx)]
  | slice t x lo hi mx =>
    rw [ho] at h
    simp only [Op.operands, Array.toList_append, List.mem_append] at h
    have h1 : ev x = ev' x := h x (by simp)
    have h2 : lo.map ev = lo.map ev' := by cases lo with | none => rfl | some y => simp only [Option.map_some]; rw [h y (by simp)]
    have h3 : hi.map ev = hi.map ev' := by cases hi with | none => rfl | some y => simp only [Option.map_some]; rw [h y (by simp)]
    have h4 : mx.map ev = mx.map ev' := by cases mx with | none => rfl | some y => simp only [Option.map_some]; rw [h y (by simp)]
    simp only [h1, h2, h3, h4]
  | makeMap t r => cases r <;> rfl
  | _ => first
    | rfl
    | (rw [ho] at h; simp only [Op.operands, List.mem_cons, List.not_mem_nil, or_false, forall_eq_or_imp, forall_eq] at h; simp only [h]; done)
    | (rw [ho] at h; simp only [Op.operands, List.mem_cons, List.not_mem_nil, or_false, forall_eq_or_imp, forall_eq] at h; obtain ⟨h1, h2⟩ := h; simp only [h1, h2]; done)
    | (rw [ho] at h; simp only [Op.operands, List.mem_cons, List.not_mem_nil, or_false, forall_eq_or_imp, forall_eq] at h; obtain ⟨h1, h2, h3⟩ := h; simp only [h1, h2, h3]; done)

/-! ### What touches no store -/
theorem pure_ntr {F : (R : Type) → (AV → Option R) → Option R} (h : NtrV F) : ∀ st, F (Out × Sto) (fun v => some (.ret v, st)) = (F AV some).map fun v => (Out.ret v, st) := by
  intro st
  rw [h]
  cases F AV some <;> rfl

theorem opR_pure {nt : Note} {rid i : Nat} {o : Oper} (hk : kindOf nt rid i o = .pure) (ev : Operand → AV) : ∃ G : Option AV, ∀ (C : Call) (st : Sto), opR A C (wrs nt rid i) ev o st = G.map fun v => (Out.ret v, st) := by
  unfold opR doOp
  cases ho : o.op with
  | move x => exact ⟨some (ev x), fun _ _ => rfl⟩
  | assign x => exact ⟨some (ev x), fun _ _ => rfl⟩
  | pick c a b => exact ⟨_, fun C st => pure_ntr (ntr_pickK (ev c) (ev a) (ev b)) st⟩
  | build t ps => exact ⟨build A t (ps.toList.map fun x => (x.1, ev x.2)), fun C st => by simp only [one]; cases build A t (ps.toList.map fun x => (x.1, ev x.2)) <;> rfl⟩
  | nilCheck x => exact ⟨nilCk (ev x), fun C st => by simp only [one]; cases nilCk (ev x) <;> rfl⟩
  | binOp op t x y z => exact ⟨_, fun C st => pure_ntr (NtrV.bind (assoc t A.tab) (F := fun (td : TD) R c => binK td ((assoc t A.eqs).getD []) (isNilConst x || isNilConst y) op (ev x) (ev y) c) (fun td => ntr_binK _ _ _ _ _ _)) st⟩
  | unOp op t x => exact ⟨_, fun C st => pure_ntr (NtrV.bind (assoc t A.tab) (F := fun (td : TD) R c => unK td op (ev x) c) (fun td => ntr_unK _ _ _)) st⟩
  | makeInterface t x =>
    cases ht : assoc t A.tab with
    | none => exact ⟨none, fun C st => by simp only [ht]; rfl⟩
    | some td =>
      cases hk2 : td.k with
      | iface n => exact ⟨none, fun C st => by simp only [ht, Option.bind_some, hk2]; rfl⟩
      | _ => exact ⟨some (.ifc t (ev x)), fun C st => by simp only [ht, Option.bind_some, hk2]; rfl⟩
  | makeFunc f a b =>
    cases f with
    | yield l => exact ⟨none, fun C st => rfl⟩
    | _ => exact ⟨some (.fn _ (a.toList.map ev) (b.toList.map ev)), fun C st => rfl⟩
  | fieldAddr s x f => exact ⟨fieldAddr A s (ev x) f, fun C st => by simp only [one]; cases fieldAddr A s (ev x) f <;> rfl⟩
  | field s x f => exact ⟨field A s (ev x) f, fun C st => by simp only [one]; cases field A s (ev x) f <;> rfl⟩
  | indexAddr t x y => exact ⟨indexAddr A t (ev x) (ev y), fun C st => by simp only [one]; cases indexAddr A t (ev x) (ev y) <;> rfl⟩
  | index t x y => exact ⟨_, fun C st => pure_ntr (ntr_indexK A t (ev x) (ev y)) st⟩
  | typeAssert x t t2 ok => exact ⟨assertA A (ev x) t2 ok, fun C st => by simp only [one]; cases assertA A (ev x) t2 ok <;> rfl⟩
  | extract x n => exact ⟨ext (ev x) n, fun C st => by simp only [one]; cases ext (ev x) n <;> rfl⟩
  | buildSlice t n ps =>
    have hw : wrs nt rid i = false := by
      unfold kindOf at hk
      simp only [ho] at hk
      cases hw : wrs nt rid i with
      | false => rfl
      | true => simp [hw] at hk
    refine ⟨(buildSlice A false t n (ps.toList.map fun x => (x.1, ev x.2)) []).map (·.1), fun C st => ?_⟩
    simp only [hw, two, buildSlice]
    cases ht : assoc t A.tab with
    | none => rfl
    | some td =>
      simp only [Option.bind_some]
      cases td.k with
      | slice e =>
        simp only
        cases he : assoc e A.tab with
        | none => rfl
        | some te =>
          simp only [Option.bind_some]
          split
          · unfold litS
            cases fillA (fun i => some (i * te.size, te.size)) (reps n te.zero) (ps.toList.map fun x => (x.1, ev x.2)) <;> rfl
          · rfl
      | _ => rfl
  | call c =>
    exfalso
    unfold kindOf at hk
    simp only [ho] at hk
    cases hc : c.callee with
    | builtin b => simp only [hc] at hk; cases b <;> simp at hk
    | value f => simp only [hc] at hk; split at hk <;> cases hk
    | invoke r m => simp only [hc] at hk; split at hk <;> cases hk
  | convert s d x =>
    exfalso
    unfold kindOf at hk
    simp only [ho] at hk
    split at hk <;> cases hk
  | _ => (exfalso; unfold kindOf at hk; simp only [ho] at hk; cases hk)

theorem opR_look {nt : Note} {rid i : Nat} {o : Oper} (hk : kindOf nt rid i o = .look) {ev : Operand → AV} {st : Sto} {out : Out} {st' : Sto} (h : opR A C (wrs nt rid i) ev o st = some (out, st')) : st' = st := by
  unfold opR doOp at h
  cases ho : o.op with
  | load t a =>
    simp only [ho] at h
    obtain ⟨td, _, h⟩ := Option.bind_eq_some_iff.1 h
    obtain ⟨v, _, h⟩ := Option.bind_eq_some_iff.1 h
    cases h; rfl
  | lookup t m key ok =>
    simp only [ho] at h
    obtain ⟨v, _, h⟩ := Option.bind_eq_some_iff.1 h
    cases h; rfl
  | slice t x lo hi mx =>
    simp only [ho] at h
    have h2 := (pure_ntr (ntr_sliceK A t (ev x) (lo.map ev) (hi.map ev) (mx.map ev) st) st).symm.trans h
    obtain ⟨v, _, h3⟩ := Option.map_eq_some_iff.1 h2
    cases h3; rfl
  | call c =>
    simp only [ho] at h
    unfold kindOf at hk
    simp only [ho] at hk
    cases hc : c.callee with
    | builtin b =>
      simp only [hc] at hk h
      unfold builtinK at h
      split at h
      · have h2 := (pure_ntr (ntr_lenK A _ _ st) st).symm.trans h
        obtain ⟨v, _, h3⟩ := Option.map_eq_some_iff.1 h2
        cases h3; rfl
      · simp at hk
      · obtain ⟨a, _, h⟩ := Option.bind_eq_some_iff.1 h
        obtain ⟨b, _, h⟩ := Option.bind_eq_some_iff.1 h
        cases h; rfl
      · obtain ⟨a, _, h⟩ := Option.bind_eq_some_iff.1 h
        obtain ⟨b, _, h⟩ := Option.bind_eq_some_iff.1 h
        cases h; rfl
      · cases h
    | value f => simp only [hc] at hk; split at hk <;> cases hk
    | invoke r m => simp only [hc] at hk; split at hk <;> cases hk
  | buildSlice t n ps =>
    exfalso
    unfold kindOf at hk
    simp only [ho] at hk
    split at hk <;> cases hk
  | convert s d x =>
    exfalso
    unfold kindOf at hk
    simp only [ho] at hk
    split at hk <;> cases hk
  | _ => (exfalso; unfold kindOf at hk; simp only [ho] at hk; cases hk)
end

end Go.St
