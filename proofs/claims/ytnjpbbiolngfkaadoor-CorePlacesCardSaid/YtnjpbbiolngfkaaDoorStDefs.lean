/- A deterministic machine over values (not memory) that runs the program's own code: definitions. -/
import GoSem.Core.Code
import GoSem.Core.Machine
namespace Go.St

/-! ### Values -/
/-- What may be appended to an immutable row: nothing, a copy of it (its capacity is its length), or in place too (the tip); or it is a cut, which may be long again (at most so long). -/
inductive Tok where
  | no
  | full
  | tip (id g es : Nat)
  | cut (n : Nat)
  deriving Inhabited

/-- How long a row of this length may be made. -/
def Tok.most (len : Nat) : Tok → Nat
  | .cut n => n
  | _ => len

/-- Cut at the end h of a row of this length, from l on. -/
def Tok.part (len h l : Nat) : Tok → Tok
  | .cut n => .cut (n - l)
  | t => if h = len then t else .cut (len - l)

inductive AV where
  | any
  /-- Some value of one cell. -/
  | one
  | bool (b : Bool)
  | int (k : IntKind) (n : Int)
  | str (s : ByteArray)
  | nilp
  | ip (cells : List AV)
  | mp (id g off : Nat)
  | nils
  | is (row : List AV) (len : Nat) (tok : Tok)
  | ms (id g off len es : Nat)
  | nilm
  | mr (id : Nat)
  | fn (f : Fn) (first captured : List AV)
  | nilfn
  | ifc (t : TypeId) (v : AV)
  | nili
  | agg (cs : List AV)
  | tup (vs : List AV)
  | it (id : Nat)
  | yl (id : Nat)
  deriving Inhabited

def AV.cells : AV → List AV
  | .agg cs => cs
  | v => [v]

/-- A value of one cell. -/
def AV.isCell : AV → Bool
  | .agg _ | .tup _ | .any => false
  | _ => true

def Tok.old (n : Nat) : Tok → Bool
  | .tip id _ _ => decide (id < n)
  | _ => true

mutual
/-- Whatever it leads to is older than n. -/
def AV.old (n : Nat) : AV → Bool
  | .ip cs => olds n cs
  | .mp id _ _ | .ms id _ _ _ _ | .mr id | .it id | .yl id => decide (id < n)
  | .is row _ tok => olds n row && tok.old n
  | .fn f a b => olds n a && olds n b && (match f with | .yield _ => false | _ => true)
  | .ifc _ v => v.old n
  | .agg cs => olds n cs
  | .tup vs => olds n vs
  | _ => true
def olds (n : Nat) : List AV → Bool
  | [] => true
  | v :: r => v.old n && olds n r
end

def Tok.strip (n : Nat) : Tok → Tok
  | .tip id g es => if id < n then .tip id g es else .no
  | t => t

mutual
/-- Tips that are not older than n are forgotten. -/
def AV.strip (n : Nat) : AV → AV
  | .ip cs => .ip (strips n cs)
  | .is row len tok => .is (strips n row) len (tok.strip n)
  | .fn f a b => .fn f (strips n a) (strips n b)
  | .ifc t v => .ifc t (v.strip n)
  | .agg cs => .agg (strips n cs)
  | .tup vs => .tup (strips n vs)
  | v => v
def strips (n : Nat) : List AV → List AV
  | [] => []
  | v :: r => v.strip n :: strips n r
end

/-! ### Store -/
/-- Positions in a function's code. -/
abbrev Path := List Nat

structure ALoop where
  state : LoopState
  pending : Option Code
  fn : FuncId
  env : List AV
  params : List Tmp
  assign : Code
  body : Code
  path : Path
  deriving Inhabited

inductive Ob where
  | dead
  /-- A variable or an array that may be written: its version, its cells, how many of them a string shares. -/
  | cells (g : Nat) (cs : List AV) (fz : Nat)
  /-- The end of an immutable row that may be appended to in place: its version. -/
  | tip (g : Nat)
  | bld (s : ByteArray)
  | iter (s : ByteArray) (pos : Nat)
  | map (es : List (AV × AV))
  | loop (l : ALoop)
  deriving Inhabited

abbrev Sto := List Ob

def Ob.old (n : Nat) : Ob → Bool
  | .cells _ cs _ => olds n cs
  | .map es => es.all fun e => e.1.old n && e.2.old n
  | .loop l => olds n l.env
  | _ => true

/-! ### Types -/
inductive TK where
  | bool
  | int (k : IntKind)
  | str
  | ptr (e : TypeId)
  | slice (e : TypeId)
  | arr (n : Nat) (e : TypeId)
  | struct (fs : List (Nat × TypeId))
  | map (k e : TypeId)
  | func
  | iface (methods : Nat)
  | tuple
  | unsafeP
  | other
  deriving Inhabited

structure TD where
  k : TK
  size : Nat
  bytes : Nat
  zero : List AV
  deriving Inhabited

def TD.isAgg (td : TD) : Bool := match td.k with | .arr _ _ | .struct _ => true | _ => false

/-! ### Outcomes -/
inductive Out where
  | ret (v : AV)
  | pan (v : AV)
  deriving Inhabited

def Out.on {R : Type} (o : Out) (f g : AV → R) : R := match o with
  | .ret v => f v
  | .pan v => g v

inductive AItem where
  | code (p : Path) (c : Code)
  | blk (id : Nat)
  | lp (p : Path) (body : Code)
  | scope (p : Path) (body : Code)
  | begin
  deriving Inhabited

structure ADef where
  f : AV
  args : List AV
  deriving Inhabited

/-- Notes on a function's code: at which places which slots alone are kept, where the unrolling stops; which operations make what may be written; in regions that draw, which calls act. -/
structure Note where
  keeps : List (Path × List Nat) := []
  stops : List Path := []
  muts : List (Nat × Nat) := []
  acts : List (Nat × Nat) := []
  deriving Inhabited

/-- A function that is told by a rule of its own. -/
inductive Prim where
  | noEscape
  | bldByte | bldStr | bldString | bldLen
  | index | indexByte
  | itoa | atoi (t : TypeId)
  deriving Inhabited

/-- Kinds of a flat struct's fields. -/
inductive FK where
  | b | i | s
  deriving DecidableEq, Inhabited

structure AProg where
  fns : List (FuncId × Func)
  tab : List (TypeId × TD)
  eqs : List (TypeId × List FK)
  notes : List (FuncId × Note)
  globs : List (Nat × List AV)
  prims : List (FuncId × Prim)
  bld : TypeId
  u8 : TypeId
  /-- Are regions whose order is open run? -/
  draws : Bool := false
  /-- Functions whose result may be appended to in place (the tip is kept). -/
  tips : List FuncId := []
  /-- Functions behind whose return nothing is forgotten. -/
  raws : List FuncId := []
  /-- Functions whose result is frozen at their return: what they made is seen as rows. -/
  frzs : List FuncId := []

/-- What is forgotten when a function returns: what it made; that, but not the result's tip; nothing; what it made, the result frozen. -/
def AProg.mode (A : AProg) (f : FuncId) : Nat := bif A.tips.contains f then 1 else bif A.raws.contains f then 2 else bif A.frzs.contains f then 3 else 0

def assoc {α : Type} (k : Nat) : List (Nat × α) → Option α
  | [] => none
  | (j, a) :: r => if j = k then some a else assoc k r

def assocP {α : Type} (k : Path) : List (Path × α) → Option α
  | [] => none
  | (j, a) :: r => if j = k then some a else assocP k r

structure Cfg where
  f : FuncId
  todo : List AItem
  env : List AV
  dfr : List ADef
  rc : Option AV
  st : Sto
  /-- Of which loop over a function it is a round. -/
  rd : Option Nat := none

/-- The 'function' that a round is. -/
def rnd : FuncId := 1000000007

structure Res where
  out : Out
  rc : Option AV
  st : Sto

end Go.St
