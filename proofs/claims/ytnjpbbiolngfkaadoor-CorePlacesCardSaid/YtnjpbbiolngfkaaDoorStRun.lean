/- The machine's regions, its steps, and its run to the end. -/
import Derived.Test.YtnjpbbiolngfkaaDoorStMach
import GoSem.Core.Region
import GoSem.Machine.Frame
namespace Go.St
set_option linter.unusedVariables false

abbrev Kont := Cfg → Option Res

/-! ### Regions -/
def put (env : List AV) (dst : Option Tmp) (v : AV) : List AV := match dst with
  | some d => env.set d v
  | none => env

def guardT (v : AV) : Option (Option Bool) := match v with
  | .bool b => some (some b)
  | .tup [] => some none
  | _ => none
def gOn {R : Type} (g : Option Bool) (no : R) (yes : Bool → R) : R := match g with
  | none => no
  | some b => yes b

/-- Is an operation carried out? Behind its guard the guard's slot is told. -/
def guardK {R : Type} (ops : Array Oper) (o : Oper) (env : List AV) (yes no : List AV → Option R) : Option R :=
  match o.guard with
  | none => yes env
  | some (j, want) => match (ops[j]?).bind (·.dst) with
    | none => no env
    | some t => match env[t]? with
      | some v => (guardT v).bind fun g => gOn g (no (env.set t (.tup []))) fun b => bif b then (bif want then yes (env.set t (.bool true)) else no (env.set t (.bool true)))
          else (bif want then no (env.set t (.bool false)) else yes (env.set t (.bool false)))
      | none => no env

def wrs (nt : Note) (rid i : Nat) : Bool := nt.muts.contains (rid, i)

section
variable {R : Type}

/-- Operations one behind the other. -/
def runOps (A : AProg) (C : Call) (nt : Note) (rid : Nat) (ops : Array Oper) (kn : List AV → Sto → Option R) (kp : AV → Sto → Option R) : List Oper → Nat → List AV → Sto → Option R
  | [], _, env, st => kn env st
  | o :: r, i, env, st => guardK ops o env
    (fun env => doOp A C (wrs nt rid i) (evA A env) o st fun out st' => out.on (fun v => runOps A C nt rid ops kn kp r (i + 1) (put env o.dst v) st') (fun v => kp v st'))
    (fun env => runOps A C nt rid ops kn kp r (i + 1) (put env o.dst (.tup [])) st)

/-- How an operation stands to the store. -/
inductive Kind where
  | pure | look | read | act

def kindOf (nt : Note) (rid i : Nat) (o : Oper) : Kind :=
  match o.op with
  | .move _ | .assign _ | .pick _ _ _ | .build _ _ | .nilCheck _ | .binOp _ _ _ _ _ | .unOp _ _ _ | .makeInterface _ _ | .makeFunc _ _ _
  | .fieldAddr _ _ _ | .field _ _ _ | .indexAddr _ _ _ | .index _ _ _ | .typeAssert _ _ _ _ | .extract _ _ => .pure
  | .buildSlice _ _ _ => if wrs nt rid i then .act else .pure
  | .convert _ _ _ => if wrs nt rid i then .act else .read
  | .load _ _ | .lookup _ _ _ _ | .slice _ _ _ _ _ => .look
  | .call c => match c.callee with
    | .builtin .append | .builtin .copy => .act
    | .builtin _ => .look
    | _ => if nt.acts.contains (rid, i) then .act else .read
  | _ => .act

/-- A read that has been done: its number, in which frame, what it gave. -/
structure Rd where
  i : Nat
  env : List AV
  o : Oper
  out : Out

/-- Where a region stands, its operations taken one behind the other: the stores (the newest first), the reads done, the acts done. -/
structure DS where
  env : List AV
  st : Sto
  old : List Sto
  reads : List Rd
  acts : List Nat

open Classical in
/-- All these reads give in this store what they gave. -/
noncomputable def again (A : AProg) (C : Call) (nt : Note) (rid : Nat) (st : Sto) (k : Option R) : List Rd → Option R
  | [] => k
  | r :: l => doOp A C (wrs nt rid r.i) (evA A r.env) r.o st fun out st' => if (out, st') = (r.out, st) then again A C nt rid st k l else none
open Classical in
/-- In all these stores the same. -/
noncomputable def alike (A : AProg) (C : Call) (w : Bool) (env : List AV) (o : Oper) (out : Out) (k : Option R) : List Sto → Option R
  | [] => k
  | s :: l => doOp A C w (evA A env) o s fun out' s' => if (out', s') = (out, s) then alike A C w env o out k l else none

/-- How many of the acts done operation i doesn't wait for. -/
def loose (b : Array Nat) (i : Nat) (l : List Nat) : Nat := (l.filter fun a => !(b.getD i 0).testBit a).length

open Classical in
/-- One operation of a region whose order is open. -/
noncomputable def drawOp (A : AProg) (C : Call) (nt : Note) (rid : Nat) (ops : Array Oper) (b : Array Nat) (o : Oper) (i : Nat) (d : DS) (k : DS → Option R) : Option R :=
  guardK ops o d.env
    (fun env => match kindOf nt rid i o with
    | .pure => doOp A C (wrs nt rid i) (evA A env) o d.st fun out _ => out.on (fun v => k { d with env := put env o.dst v }) (fun _ => none)
    | .look => doOp A C (wrs nt rid i) (evA A env) o d.st fun out _ =>
        out.on (fun v => alike A C (wrs nt rid i) env o (.ret v) (k { d with env := put env o.dst v, reads := ⟨i, env, o, .ret v⟩ :: d.reads }) (d.old.take (loose b i d.acts))) (fun _ => none)
    | .read => doOp A C (wrs nt rid i) (evA A env) o d.st fun out st' =>
        out.on (fun v => if st' = d.st then alike A C (wrs nt rid i) env o (.ret v) (k { d with env := put env o.dst v, reads := ⟨i, env, o, .ret v⟩ :: d.reads }) (d.old.take (loose b i d.acts)) else none) (fun _ => none)
    | .act => bif loose b i d.acts == 0 then doOp A C (wrs nt rid i) (evA A env) o d.st fun out st' =>
        out.on (fun v => again A C nt rid st' (k { d with env := put env o.dst v, st := st', old := d.st :: d.old, acts := i :: d.acts }) (d.reads.filter fun r => !(b.getD i 0).testBit r.i)) (fun _ => none)
      else none)
    (fun env => k { d with env := put env o.dst (.tup []) })

noncomputable def drawOps (A : AProg) (C : Call) (nt : Note) (rid : Nat) (ops : Array Oper) (b : Array Nat) (k : DS → Option R) : List Oper → Nat → DS → Option R
  | [], _, d => k d
  | o :: r, i, d => drawOp A C nt rid ops b o i d fun d' => drawOps A C nt rid ops b k r (i + 1) d'

/-- The slots that an operation names: its own, its guard's, its operands. -/
def slotsOf (ops : Array Oper) (o : Oper) : List Tmp :=
  o.dst.toList ++ ((match o.guard with | some (j, _) => ((ops[j]?).bind (·.dst)).toList | none => []) ++ o.op.operands.toList.filterMap fun | .tmp t => some t | _ => none)
/-- Who writes a slot stands to all who name it in an order that binds. -/
def slotsOk (ops : Array Oper) (b : Array Nat) : Bool :=
  (List.range ops.size).all fun i => match (ops[i]?).bind (·.dst) with
    | none => true
    | some t => (List.range ops.size).all fun j => i == j || (match ops[j]? with | some o => !(slotsOf ops o).contains t | none => true) || (b.getD (max i j) 0).testBit (min i j)
/-- Each edge that binds leads back. -/
def edgesOk (ops : Array Oper) : Bool :=
  (List.range ops.size).all fun i => match ops[i]? with
    | none => true
    | some o => o.after.all fun e => !Region.binds .any e || decide (e.on < i)

noncomputable def runDraw (A : AProg) (C : Call) (nt : Note) (rid : Nat) (ops : Array Oper) (kn : List AV → Sto → Option R) (kp : AV → Sto → Option R) (env : List AV) (st : Sto) : Option R :=
  bif edgesOk ops && slotsOk ops (Region.before ops) then
    drawOps A C nt rid ops (Region.before ops) (fun d => kn d.env d.st) ops.toList 0 { env := env, st := st, old := [], reads := [], acts := [] }
  else none
end

/-! ### Steps -/
/-- The slots of a list alone are kept. -/
def keep (l : List Nat) : Nat → List AV → List AV
  | _, [] => []
  | i, v :: r => (bif l.contains i then v else .any) :: keep l (i + 1) r

def Note.keepAt (nt : Note) (p : Path) (env : List AV) : List AV := match assocP p nt.keeps with
  | some l => keep l 0 env
  | none => env

def AProg.note (A : AProg) (f : FuncId) : Note := (assoc f A.notes).getD {}

def gotoA (l : Nat) : List AItem → Option (List AItem)
  | .scope p body :: k =>
    match findLabel body l with
    | some rest => some (.code (l :: 9 :: p) rest :: .scope p body :: k)
    | none => gotoA l k
  | _ :: k => gotoA l k
  | [] => none

def resA (A : AProg) (env : List AV) (st : Sto) : List ResultVar → (List AV → Option Res) → Option Res
  | [], k => k []
  | .tmp t :: r, k => resA A env st r fun vs => k (env.getD t (.tup []) :: vs)
  | .cell a t :: r, k => (assoc t A.tab).bind fun td => (ld td.isAgg td.size st (env.getD a (.tup []))).bind fun v => resA A env st r fun vs => k (v :: vs)

def tupA : List AV → AV
  | [v] => v
  | vs => .tup vs

/-- What is left of loops over functions. -/
def endMarks : List ADef → Sto → Option Sto
  | [], st => some st
  | d :: r, st => match d.f with
    | .yl id => match st[id]? with
      | some (.loop _) => endMarks r (st.set id .dead)
      | _ => none
    | _ => none

/-- The end of a call: its results. -/
def finA (A : AProg) (c : Cfg) : Option Res :=
  (endMarks c.dfr c.st).bind fun st => (assoc c.f A.fns).bind fun fn => resA A c.env st fn.results.toList fun vs => some ⟨.ret (tupA vs), c.rc, st⟩

/-- A round begins. -/
def rBeg (st : Sto) (id : Nat) : Option Sto := match st[id]? with
  | some (.loop l) => match l.state with
    | .ready => some (st.set id (.loop { l with state := .busy }))
    | _ => none
  | _ => none
/-- A round ends: off its end, or by a jump. -/
def rEnd (st : Sto) (id : Nat) (jump : Option Code) : Option Res := match st[id]? with
  | some (.loop l) => some ⟨.ret (.bool jump.isNone), none, st.set id (.loop { l with state := if jump.isNone then .ready else .done, pending := jump })⟩
  | _ => none
/-- The function that was ranged over has ended. -/
def lpEnd (st : Sto) (id : Nat) : Option (Option Code × Sto) := match st[id]? with
  | some (.loop l) => match l.state with
    | .busy => none
    | _ => some (l.pending, st.set id (.loop { l with state := .exhausted }))
  | _ => none
def jOn {R : Type} (j : Option Code) (n r : Option R) (x : Nat → Option R) : Option R := match j with
  | none => n
  | some .ret => r
  | some (.exit id) => x id
  | _ => none
/-- To a block's end, if it is around. -/
def exitK {R : Type} (id : Nat) (yes : List AItem → R) (no : R) : List AItem → R
  | .blk id' :: k => bif id' == id then yes k else exitK id yes no k
  | _ :: k => exitK id yes no k
  | [] => no

def panA (c : Cfg) (v : AV) (st : Sto) : Option Res :=
  match c.dfr, c.rd with
  | [], none => some ⟨.pan v, c.rc, st⟩
  | _, _ => none

noncomputable def stepF (A : AProg) (C : Call) (K : Kont) (c : Cfg) : Option Res :=
  match c.todo with
  | [] => match c.rd with
    | none => finA A c
    | some id => rEnd c.st id none
  | .begin :: t => c.rd.bind fun id => (rBeg c.st id).bind fun st' => K { c with todo := t, st := st' }
  | .blk _ :: t | .scope _ _ :: t => K { c with todo := t }
  | .lp p body :: t => K { c with todo := .code (0 :: p) body :: .lp p body :: t }
  | .code p code :: t =>
    let env := (A.note c.f).keepAt p c.env
    match code with
    | .skip | .label _ => K { c with todo := t, env := env }
    | .ret => match c.rd with
      | none => finA A { c with env := env }
      | some id => rEnd c.st id (some .ret)
    | .seq a b => K { c with todo := .code (0 :: p) a :: .code (1 :: p) b :: t, env := env }
    | .cond x a b => (asB (evA A env x)).bind fun q => bif q then K { c with todo := .code (0 :: p) a :: t, env := env } else K { c with todo := .code (1 :: p) b :: t, env := env }
    | .block id body => K { c with todo := .code (0 :: p) body :: .blk id :: t, env := env }
    | .loop body => K { c with todo := .code (0 :: p) body :: .lp p body :: t, env := env }
    | .scope body => K { c with todo := .code (0 :: p) body :: .scope p body :: t, env := env }
    | .exit id => exitK id (fun t' => K { c with todo := t', env := env }) (match c.rd with
      | none => none
      | some l => rEnd c.st l (some (.exit id))) t
    | .rangeFunc g ps a b => match c.rd with
      | some _ => none
      | none => (rangeA A C (evA A env g) [.yl c.st.length] (c.st ++ [.loop { state := .ready, pending := none, fn := c.f, env := env, params := ps.toList, assign := a, body := b, path := p }])).bind fun x =>
        x.1.on (fun _ => (lpEnd x.2 c.st.length).bind fun y => jOn y.1
          (K { c with todo := t, env := env, dfr := ⟨.yl c.st.length, []⟩ :: c.dfr, st := y.2 })
          (finA A { c with env := env, dfr := ⟨.yl c.st.length, []⟩ :: c.dfr, st := y.2 })
          (fun id => exitK id (fun t' => K { c with todo := t', env := env, dfr := ⟨.yl c.st.length, []⟩ :: c.dfr, st := y.2 }) none t)) (fun _ => none)
    | .goto l => (gotoA l t).bind fun t' => K { c with todo := t', env := env }
    | .region rid ops draw =>
      bif draw then (bif A.draws then runDraw A C (A.note c.f) rid ops (fun env' st' => K { c with todo := t, env := env', st := st' }) (panA c) env c.st else none)
      else runOps A C (A.note c.f) rid ops (fun env' st' => K { c with todo := t, env := env', st := st' }) (panA c) ops.toList 0 env c.st
    | _ => none

/-- The beginning of a call. -/
def setAll : List AV → List Tmp → List AV → List AV
  | env, t :: ts, v :: vs => setAll (env.set t v) ts vs
  | env, _, _ => env
def entryR (A : AProg) (args : List AV) (st : Sto) : Option Cfg := match args with
  | .yl id :: xs => match st[id]? with
    | some (.loop l) => (assoc l.fn A.fns).bind fun _ => bif Nat.beq xs.length l.params.length then
        some { f := l.fn, todo := [.code (1 :: l.path) l.assign, .begin, .code (0 :: l.path) l.body], env := setAll l.env l.params xs, dfr := [], rc := none, st := st, rd := some id } else none
    | _ => none
  | _ => none
def entry (A : AProg) (f : FuncId) (args : List AV) (st : Sto) : Option Cfg :=
  bif Nat.beq f rnd then entryR A args st else (assoc f A.fns).bind fun fn => fn.body.bind fun body =>
    some { f := f, todo := [.code [] body], env := args ++ List.replicate (fn.ntmps - args.length) (.tup []), dfr := [], rc := none, st := st }

/-- What was there at the call is as it was, or leads to nothing newer. -/
def Kept (n : Nat) (st st' : Sto) : Prop := ∀ i, i < n → st'[i]? = st[i]? ∨ ∃ o, st'[i]? = some o ∧ o.old n = true

def Out.val : Out → AV
  | .ret v => v
  | .pan v => v
def Out.map (g : AV → AV) : Out → Out
  | .ret v => .ret (g v)
  | .pan v => .pan (g v)

open Classical in
/-- Behind a call what it made and nothing leads to is forgotten. -/
noncomputable def gc (st : Sto) (r : Out × Sto) : Out × Sto :=
  if (r.1.val.strip st.length).old st.length = true ∧ st.length ≤ r.2.length ∧ Kept st.length st r.2 then (r.1.map (AV.strip st.length), r.2.take st.length) else r

open Classical in
/-- The same, but the tip of the row that is handed back is kept, as a new one. -/
noncomputable def gcT (st : Sto) (r : Out × Sto) : Out × Sto :=
  match r.1 with
  | .ret (.is row len (.tip id g es)) =>
    if olds st.length (strips st.length row) = true ∧ st.length ≤ id ∧ r.2[id]? = some (.tip g) ∧ st.length ≤ r.2.length ∧ Kept st.length st r.2 then
      (.ret (.is (strips st.length row) len (.tip st.length 0 es)), r.2.take st.length ++ [.tip 0]) else gc st r
  | _ => gc st r

/-- A value whose objects from n on are seen as rows. -/
inductive Frz (st : Sto) (n : Nat) : AV → AV → Prop
  | old (a : AV) (h : a.old n = true) : Frz st n a a
  | ip (cs ds : List AV) (hl : ds.length = cs.length) (h : ∀ (j : Nat) (a b : AV), cs[j]? = some a → ds[j]? = some b → Frz st n a b) : Frz st n (.ip cs) (.ip ds)
  | is (row row' : List AV) (len : Nat) (tok : Tok) (hl : row'.length = row.length) (h : ∀ (j : Nat) (a b : AV), row[j]? = some a → row'[j]? = some b → Frz st n a b) : Frz st n (.is row len tok) (.is row' len (tok.strip n))
  | ms (id g off len es : Nat) (cs row' : List AV) (fz : Nat) (hn : n ≤ id) (ho : st[id]? = some (.cells g cs fz)) (hb : off + len * es ≤ cs.length) (hl : row'.length = len * es)
      (h : ∀ (j : Nat) (a b : AV), cs[off + j]? = some a → row'[j]? = some b → Frz st n a b) : Frz st n (.ms id g off len es) (.is row' len .no)
  | ifc (t : TypeId) (a b : AV) (h : Frz st n a b) : Frz st n (.ifc t a) (.ifc t b)
  | agg (cs ds : List AV) (hl : ds.length = cs.length) (h : ∀ (j : Nat) (a b : AV), cs[j]? = some a → ds[j]? = some b → Frz st n a b) : Frz st n (.agg cs) (.agg ds)
  | tup (cs ds : List AV) (hl : ds.length = cs.length) (h : ∀ (j : Nat) (a b : AV), cs[j]? = some a → ds[j]? = some b → Frz st n a b) : Frz st n (.tup cs) (.tup ds)

open Classical in
/-- The same, but what is handed back is frozen. -/
noncomputable def gcF (st : Sto) (r : Out × Sto) : Out × Sto :=
  match r.1 with
  | .ret v => if h : (∃ b, Frz r.2 st.length v b) ∧ st.length ≤ r.2.length ∧ Kept st.length st r.2 then (.ret h.1.choose, r.2.take st.length) else gc st r
  | _ => gc st r

noncomputable def gcK (m : Nat) (st : Sto) (r : Out × Sto) : Out × Sto := match m with
  | 0 => gc st r
  | 1 => gcT st r
  | 2 => r
  | _ => gcF st r

noncomputable def run (A : AProg) : Nat → Kont
  | 0, _ => none
  | k + 1, c => stepF A (fun f args st => (entry A f args st).bind fun c' => (run A k c').bind fun r => some (gcK (A.mode f) st (r.out, r.st))) (run A k) c

noncomputable def callK (A : AProg) (k : Nat) : Call := fun f args st => (entry A f args st).bind fun c' => (run A k c').bind fun r => some (gcK (A.mode f) st (r.out, r.st))

end Go.St
