/- A deterministic machine over values that runs the program's own code: its operations. -/
import Derived.Test.YtnjpbbiolngfkaaDoorStDefs
import GoSem.Op.String
import GoSem.Core.Utf8
import Derived.Lib.Index
import Derived.Lib.Bytealg
import Derived.Lib.ItoaNum
import Derived.Lib.AtoiAll
namespace Go.St
set_option linter.unusedVariables false

/-! ### Operands -/
def ofConst1 : Value → AV
  | .bool b => .bool b
  | .int k n => .int k n
  | .string s => .str s
  | .pointer none => .nilp
  | .slice none 0 0 => .nils
  | .map none => .nilm
  | .nilFunc => .nilfn
  | .nilIface => .nili
  | _ => .any
def ofConst : Value → AV
  | .agg cs => .agg (cs.toList.map ofConst1)
  | v => ofConst1 v

def evA (A : AProg) (env : List AV) : Operand → AV
  | .tmp t => env.getD t (.tup [])
  | .const v => ofConst v
  | .global g => match assoc g A.globs with | some cs => .ip cs | none => .any
  | .func f => .fn (.func f) [] []

/-! ### Memory -/
def ldCells (st : Sto) (p : AV) (n : Nat) : Option (List AV) :=
  match p with
  | .ip cs => if n ≤ cs.length then some (cs.take n) else none
  | .mp id g off => match st[id]? with
    | some (.cells g' cs _) => if g' = g ∧ off + n ≤ cs.length then some ((cs.drop off).take n) else none
    | _ => none
  | _ => none

def pack (agg : Bool) (cs : List AV) : Option AV :=
  if agg then some (.agg cs) else match cs with
    | [c] => some c
    | _ => none

/-- A load of so many cells. -/
def ld (agg : Bool) (n : Nat) (st : Sto) (p : AV) : Option AV := (ldCells st p n).bind (pack agg)

def splice {α : Type} (xs : List α) (off : Nat) (ys : List α) : List α := xs.take off ++ (ys ++ xs.drop (off + ys.length))

def stCells (st : Sto) (p : AV) (vs : List AV) : Option Sto :=
  match p with
  | .mp id g off => match st[id]? with
    | some (.cells g' cs fz) =>
      if g' = g ∧ fz ≤ off ∧ off + vs.length ≤ cs.length ∧ vs.all AV.isCell = true then some (st.set id (.cells g' (splice cs off vs) fz)) else none
    | _ => none
  | _ => none

/-- A store. -/
def sto (n : Nat) (st : Sto) (p v : AV) : Option Sto := if v.cells.length = n then stCells st p v.cells else none

/-! ### Aggregates -/
def fillA (place : Nat → Option (Nat × Nat)) : List AV → List (Nat × AV) → Option (List AV)
  | cells, [] => some cells
  | cells, (i, v) :: rest =>
    match place i with
    | none => none
    | some (off, size) =>
      if v.cells.length = size ∧ off + size ≤ cells.length ∧ v.cells.all AV.isCell = true then fillA place (splice cells off v.cells) rest else none

def placesOf (A : AProg) : List (Nat × TypeId) → Option (List (Nat × Nat))
  | [] => some []
  | (off, t) :: r => (assoc t A.tab).bind fun td => (placesOf A r).bind fun l => some ((off, td.size) :: l)

def aggA (r : Option (List AV)) : Option AV := r.bind fun cs => some (.agg cs)

def build (A : AProg) (t : TypeId) (parts : List (Nat × AV)) : Option AV :=
  (assoc t A.tab).bind fun td => match td.k with
    | .struct fs => (placesOf A fs).bind fun pl => aggA (fillA (fun i => pl[i]?) td.zero parts)
    | .arr _ e => (assoc e A.tab).bind fun te => aggA (fillA (fun i => some (i * te.size, te.size)) td.zero parts)
    | _ => none

def reps {α : Type} (n : Nat) (z : List α) : List α := match n with
  | 0 => []
  | n + 1 => z ++ reps n z

def litS (wr : Bool) (len size : Nat) (r : Option (List AV)) (st : Sto) : Option (AV × Sto) :=
  r.bind fun cs => if wr then some (.ms st.length 0 0 len size, st ++ [.cells 0 cs 0]) else some (.is cs len .full, st)

def buildSlice (A : AProg) (wr : Bool) (t : TypeId) (len : Nat) (parts : List (Nat × AV)) (st : Sto) : Option (AV × Sto) :=
  (assoc t A.tab).bind fun td => match td.k with
    | .slice e => (assoc e A.tab).bind fun te =>
      if len * te.size ≤ 16777216 then litS wr len te.size (fillA (fun i => some (i * te.size, te.size)) (reps len te.zero) parts) st else none
    | _ => none

/-- The place of a field. -/
def fa (off size : Nat) (p : AV) : Option AV :=
  match p with
  | .ip cs => if off + size ≤ cs.length then some (.ip ((cs.drop off).take size)) else none
  | .mp id g o => some (.mp id g (o + off))
  | _ => none

def fieldAddr (A : AProg) (s : TypeId) (p : AV) (f : Nat) : Option AV :=
  (assoc s A.tab).bind fun td => match td.k with
    | .struct fs => (fs[f]?).bind fun x => (assoc x.2 A.tab).bind fun tf => if tf.size = 0 then none else fa x.1 tf.size p
    | _ => none

def partA (agg : Bool) (size : Nat) (cs : List AV) (off : Nat) : Option AV :=
  if agg then (if off + size ≤ cs.length then some (.agg ((cs.drop off).take size)) else none) else cs[off]?

def fieldOf (agg : Bool) (off size : Nat) (x : AV) : Option AV := match x with
  | .agg cs => partA agg size cs off
  | _ => none

def field (A : AProg) (s : TypeId) (x : AV) (f : Nat) : Option AV :=
  (assoc s A.tab).bind fun td => match td.k with
    | .struct fs => (fs[f]?).bind fun y => (assoc y.2 A.tab).bind fun tf => fieldOf tf.isAgg y.1 tf.size x
    | _ => none

/-- Place i of n. -/
def idx (i : Int) (n : Nat) : Option Nat := if 0 ≤ i ∧ i < n then some i.toNat else none

/-- The place of an element of a slice. -/
def ia (size : Nat) (x i : AV) : Option AV :=
  match x, i with
  | .is row len _, .int _ i => (idx i len).bind fun j => if (j + 1) * size ≤ row.length then some (.ip ((row.drop (j * size)).take size)) else none
  | .ms id g off len es, .int _ i => if es = size then (idx i len).bind fun j => some (.mp id g (off + j * size)) else none
  | _, _ => none
/-- The place of an element of an array. -/
def iaArr (n size : Nat) (x i : AV) : Option AV :=
  match x, i with
  | .ip cs, .int _ i => (idx i n).bind fun j => if (j + 1) * size ≤ cs.length then some (.ip ((cs.drop (j * size)).take size)) else none
  | .mp id g off, .int _ i => (idx i n).bind fun j => some (.mp id g (off + j * size))
  | _, _ => none

def indexAddr (A : AProg) (t : TypeId) (x i : AV) : Option AV :=
  (assoc t A.tab).bind fun td => match td.k with
    | .slice e => (assoc e A.tab).bind fun te => ia te.size x i
    | .arr n e => (assoc e A.tab).bind fun te => iaArr n te.size x i
    | _ => none

def byt (s : ByteArray) (i : Nat) : Int := (s.get! i).toNat
def byteAt (s : ByteArray) (i : Nat) : AV := .int .u8 (byt s i)

/-- An element of an array's value. -/
def ixArr (agg : Bool) (n size : Nat) (x i : AV) : Option AV := match x, i with
  | .agg cs, .int _ i => (idx i n).bind fun j => partA agg size cs (j * size)
  | _, _ => none

/-! ### Operators -/
def andI (k : IntKind) (x y : Int) : Int := k.wrap (BitVec.ofInt k.bits x &&& BitVec.ofInt k.bits y).toNat
def orI (k : IntKind) (x y : Int) : Int := k.wrap (BitVec.ofInt k.bits x ||| BitVec.ofInt k.bits y).toNat
def xorI (k : IntKind) (x y : Int) : Int := k.wrap (BitVec.ofInt k.bits x ^^^ BitVec.ofInt k.bits y).toNat
def andNotI (k : IntKind) (x y : Int) : Int := k.wrap (BitVec.ofInt k.bits x &&& ~~~(BitVec.ofInt k.bits y)).toNat
def shlI (k : IntKind) (x y : Int) : Int := k.wrap (x * 2 ^ min y.toNat k.bits)
def shrI (k : IntKind) (x y : Int) : Int := x.fdiv (2 ^ min y.toNat k.bits)
def sLess (x y : ByteArray) : Bool := Op.bytesLess x.data.toList y.data.toList

def asI (k : IntKind) (x : AV) : Option Int := match x with
  | .int k' n => if k' = k then some n else none
  | _ => none
def asInt (x : AV) : Option Int := match x with
  | .int _ n => some n
  | _ => none
def asS (x : AV) : Option ByteArray := match x with
  | .str s => some s
  | _ => none
def asB (x : AV) : Option Bool := match x with
  | .bool b => some b
  | _ => none

section
variable {R : Type}
def binI (op : BinOp) (k : IntKind) (x y : Int) (c : AV → Option R) : Option R :=
  match op with
  | .add => c (.int k (k.wrap (x + y)))
  | .sub => c (.int k (k.wrap (x - y)))
  | .mul => c (.int k (k.wrap (x * y)))
  | .quo => if y = 0 then none else c (.int k (k.wrap (x.tdiv y)))
  | .rem => if y = 0 then none else c (.int k (x.tmod y))
  | .and => c (.int k (andI k x y))
  | .or => c (.int k (orI k x y))
  | .xor => c (.int k (xorI k x y))
  | .andNot => c (.int k (andNotI k x y))
  | .shl => if y < 0 then none else c (.int k (shlI k x y))
  | .shr => if y < 0 then none else c (.int k (shrI k x y))
  | .eql => c (.bool (decide (x = y)))
  | .neq => c (.bool (!decide (x = y)))
  | .lss => c (.bool (decide (x < y)))
  | .leq => c (.bool (decide (x ≤ y)))
  | .gtr => c (.bool (decide (y < x)))
  | .geq => c (.bool (decide (y ≤ x)))

def binS (op : BinOp) (x y : ByteArray) (c : AV → Option R) : Option R :=
  match op with
  | .add => if x.size + y.size ≤ 9223372036854775807 then c (.str (x ++ y)) else none
  | .eql => c (.bool (decide (x = y)))
  | .neq => c (.bool (!decide (x = y)))
  | .lss => c (.bool (sLess x y))
  | .leq => c (.bool (sLess x y || decide (x = y)))
  | .gtr => c (.bool (!(sLess x y || decide (x = y))))
  | .geq => c (.bool (!sLess x y))
  | _ => none
end

/-- Cells of numbers, texts and truths, held against each other. -/
def eqCell : AV → AV → Option Bool
  | .int k x, .int k' y => if k = k' then some (decide (x = y)) else none
  | .str x, .str y => some (decide (x = y))
  | .bool x, .bool y => some (x == y)
  | _, _ => none

def eqF : FK → AV → AV → Option Bool
  | .i, .int k x, .int k' y => if k = k' then some (decide (x = y)) else none
  | .s, .str x, .str y => some (decide (x = y))
  | .b, .bool x, .bool y => some (x == y)
  | _, _, _ => none

def eqCells : List FK → List AV → List AV → Option Bool
  | [], [], [] => some true
  | k :: ks, x :: xs, y :: ys => (eqF k x y).bind fun b => if b then eqCells ks xs ys else some false
  | _, _, _ => none

def isNilConst : Operand → Bool
  | .const _ => true
  | _ => false

/-- Kinds of types, as '==' tells them apart. -/
inductive EK where
  | bool | ptr | slice | map | func | iface | struct | none
def ekOf : TK → EK
  | .bool => .bool
  | .ptr _ => .ptr
  | .slice _ => .slice
  | .map _ _ => .map
  | .func => .func
  | .iface _ => .iface
  | .struct _ => .struct
  | _ => .none

/-- '==' of what is no number and no text. lit: one of the two is a literal; flat: structs of numbers, texts and truths. -/
def eqV (k : EK) (flat : List FK) (lit : Bool) (x y : AV) : Option Bool :=
  match k with
  | .bool => match x, y with
    | .bool a, .bool b => some (a == b)
    | _, _ => none
  | .ptr => match x, y with
    | .nilp, .nilp => some true
    | .nilp, .ip _ | .nilp, .mp _ _ _ | .ip _, .nilp | .mp _ _ _, .nilp => some false
    | _, _ => none
  | .slice => match x, y with
    | .nils, .nils => some true
    | .nils, .is _ _ _ | .nils, .ms _ _ _ _ _ | .is _ _ _, .nils | .ms _ _ _ _ _, .nils => some false
    | _, _ => none
  | .map => match x, y with
    | .nilm, .nilm => some true
    | .nilm, .mr _ | .mr _, .nilm => some false
    | _, _ => none
  | .func => match x, y with
    | .nilfn, .nilfn => some true
    | .nilfn, .fn _ _ _ | .fn _ _ _, .nilfn => some false
    | _, _ => none
  | .iface => match x, y with
    | .nili, .nili => if lit then some true else none
    | .nili, .ifc _ _ | .ifc _ _, .nili => some false
    | _, _ => none
  | .struct => match x, y with
    | .agg xs, .agg ys => if flat = [] then none else eqCells flat xs ys
    | _, _ => none
  | .none => none

def bytesAV (s : ByteArray) : List AV := s.data.toList.map fun b => .int .u8 b.toNat
/-- The text of a row of bytes. -/
def textOf : List AV → Option (List UInt8)
  | [] => some []
  | .int .u8 n :: r => (textOf r).bind fun l => some (UInt8.ofNat n.toNat :: l)
  | _ :: _ => none

/-- The cells of a slice. -/
def rowOf (st : Sto) (es : Nat) : AV → Option (List AV)
  | .nils => some []
  | .is row len _ => if row.length = len * es then some row else if len * es ≤ row.length then some (row.take (len * es)) else none
  | .ms id g off len es' => if es' = es then match st[id]? with
    | some (.cells g' cs _) => if g' = g ∧ off + len * es ≤ cs.length then some ((cs.drop off).take (len * es)) else none
    | _ => none
    else none
  | _ => none

def toText (st : Sto) (x : AV) : Option ByteArray := (rowOf st 1 x).bind fun row => (textOf row).bind fun l => some ⟨l.toArray⟩
def toBytes (wr : Bool) (s : ByteArray) (st : Sto) : Option (AV × Sto) :=
  if s.size ≤ 70368744177664 then (if wr then some (.ms st.length 0 0 s.size 1, st ++ [.cells 0 (bytesAV s) 0]) else some (.is (bytesAV s) s.size .no, st)) else none

/-! ### Slices -/
def mkS (size bytes : Nat) (zero : List AV) (len cap : AV) (st : Sto) : Option (AV × Sto) :=
  match len, cap with
  | .int .i64 l, .int .i64 c =>
    if 0 ≤ l ∧ l ≤ c ∧ c ≤ 9223372036854775807 ∧ bytes * c ≤ 140737488355328 then some (.ms st.length 0 0 l.toNat size, st ++ [.cells 0 (reps l.toNat zero) 0]) else none
  | _, _ => none

def makeSlice (A : AProg) (t : TypeId) (len cap : AV) (st : Sto) : Option (AV × Sto) :=
  (assoc t A.tab).bind fun td => match td.k with
    | .slice e => (assoc e A.tab).bind fun te => mkS te.size te.bytes te.zero len cap st
    | _ => none

/-- The bounds of a cut. -/
def bnd (d : Nat) (most : Nat) : Option AV → Option Nat
  | none => some d
  | some (.int _ i) => if 0 ≤ i ∧ i ≤ most then some i.toNat else none
  | some _ => none

def cutL (size : Nat) (x : AV) (lo hi : Option AV) : Option AV := match x with
  | .nils => (bnd 0 0 hi).bind fun h => (bnd 0 h lo).bind fun _ => some .nils
  | .is row len tok => (bnd len (tok.most len) hi).bind fun h => (bnd 0 h lo).bind fun l =>
      if row.length = tok.most len * size then some (.is (row.drop (l * size)) (h - l) (tok.part len h l)) else none
  | .ms id g off len es => (bnd len len hi).bind fun h => (bnd 0 h lo).bind fun l => if es = size then some (.ms id g (off + l * es) (h - l) es) else none
  | _ => none

def lenL (x : AV) : Option Nat := match x with
  | .nils => some 0
  | .is _ n _ => some n
  | .ms _ _ _ n _ => some n
  | _ => none
def lenM (x : AV) (st : Sto) : Option Nat := match x with
  | .nilm => some 0
  | .mr id => match st[id]? with
      | some (.map es) => some es.length
      | _ => none
  | _ => none

/-- What 'append' puts behind: a row, or (str) a text's bytes. -/
def tailOf (str : Bool) (es : Nat) (st : Sto) (y : AV) : Option (List AV × Nat) :=
  if str then (match y with
    | .str s => some (bytesAV s, s.size)
    | _ => none)
  else match y with
  | .nils => some ([], 0)
  | .is row len tok => (rowOf st es (.is row len tok)).bind fun r => some (r, len)
  | .ms id g off len es' => (rowOf st es (.ms id g off len es')).bind fun r => some (r, len)
  | _ => none

/-- Is there room for a row of so many, whatever its capacity? -/
def room (bytes n : Nat) : Bool := decide (n * bytes ≤ 140737488355328 ∧ n ≤ 4611686018427387904)

def appL (wr str : Bool) (size bytes : Nat) (x y : AV) (st : Sto) : Option (AV × Sto) :=
  (tailOf str size st y).bind fun (new, n) => match x with
    | .nils => if n = 0 then some (.nils, st) else if room bytes n = true then
        (if wr then some (.ms st.length 0 0 n size, st ++ [.cells 0 new 0]) else some (.is new n (.tip st.length 0 size), st ++ [.tip 0]))
      else none
    | .is row len .full => if n = 0 then some (.is row len .full, st) else if row.length = len * size ∧ room bytes (len + n) = true then
        (if wr then some (.ms st.length 0 0 (len + n) size, st ++ [.cells 0 (row ++ new) 0]) else some (.is (row ++ new) (len + n) (.tip st.length 0 size), st ++ [.tip 0]))
      else none
    | .is row len (.tip i g es) => if row.length = len * size ∧ es = size ∧ room bytes (len + n) = true then match st[i]? with
        | some (.tip g') => if g' = g then some (.is (row ++ new) (len + n) (.tip i (g + 1) es), st.set i (.tip (g + 1))) else none
        | _ => none
      else none
    | .ms i g off len es => if es = size ∧ room bytes (len + n) = true then match st[i]? with
        | some (.cells g' cs fz) => if g' = g ∧ off + len * es ≤ cs.length ∧ fz = 0 then
            some (.ms i (g + 1) 0 (len + n) es, st.set i (.cells (g + 1) ((cs.drop off).take (len * es) ++ new) 0)) else none
        | _ => none
      else none
    | _ => none

def isU8 (td : TD) : Bool := match td.k with | .int .u8 => true | _ => false

/-- The second argument's type: a slice's, or a text's behind bytes. -/
def srcStr (A : AProg) (te : TD) (tx : TypeId) : Option Bool :=
  (assoc tx A.tab).bind fun tdx => match tdx.k with
    | .slice _ => some false
    | .str => if isU8 te then some true else none
    | _ => none

def appendA (A : AProg) (wr : Bool) (t tx : TypeId) (x y : AV) (st : Sto) : Option (AV × Sto) :=
  (assoc t A.tab).bind fun td => match td.k with
    | .slice e => (assoc e A.tab).bind fun te => (srcStr A te tx).bind fun b => appL wr b te.size te.bytes x y st
    | _ => none

def cpL (str : Bool) (size : Nat) (x y : AV) (st : Sto) : Option (AV × Sto) :=
  (tailOf str size st y).bind fun (new, n) => match x with
    | .ms i g off len es => if es = size then
        (stCells st (.mp i g off) (new.take (min n len * es))).bind fun st' => some (.int .i64 (min n len : Nat), st') else none
    | .nils => some (.int .i64 0, st)
    | _ => none

def copyA (A : AProg) (t tx : TypeId) (x y : AV) (st : Sto) : Option (AV × Sto) :=
  (assoc t A.tab).bind fun td => match td.k with
    | .slice e => (assoc e A.tab).bind fun te => (srcStr A te tx).bind fun b => cpL b te.size x y st
    | _ => none

/-! ### Maps -/
def keyNo (k : AV) : List (AV × AV) → Nat → Option (Option (Nat × AV))
  | [], _ => some none
  | (k', v) :: r, i => (eqCell k k').bind fun b => if b then some (some (i, v)) else keyNo k r (i + 1)

def keyOk (td : TD) (k : AV) : Bool := match td.k, k with
  | .int k, .int k' _ => k == k'
  | .str, .str _ => true
  | .bool, .bool _ => true
  | _, _ => false

def mapOf (m : AV) (st : Sto) : Option (List (AV × AV)) := match m with
  | .nilm => some []
  | .mr id => match st[id]? with
    | some (.map es) => some es
    | _ => none
  | _ => none

def lkM (zero : Option AV) (ok : Bool) (m k : AV) (st : Sto) : Option AV :=
  (mapOf m st).bind fun es => (keyNo k es 0).bind fun r => match r with
    | some (_, v) => some (if ok then .tup [v, .bool true] else v)
    | none => zero.bind fun z => some (if ok then .tup [z, .bool false] else z)

def lookupA (A : AProg) (t : TypeId) (m k : AV) (ok : Bool) (st : Sto) : Option AV :=
  (assoc t A.tab).bind fun td => match td.k with
    | .map kt et => (assoc kt A.tab).bind fun tk => (assoc et A.tab).bind fun te => if keyOk tk k then lkM (pack te.isAgg te.zero) ok m k st else none
    | _ => none

def known : AV → Bool
  | .any | .one => false
  | _ => true

def setM (m k v : AV) (st : Sto) : Option Sto := if known v then match m with
  | .mr id => match st[id]? with
    | some (.map es) => (keyNo k es 0).bind fun r => match r with
        | some (i, _) => some (st.set id (.map (es.set i (k, v))))
        | none => some (st.set id (.map (es ++ [(k, v)])))
    | _ => none
  | _ => none
  else none

def mapSet (A : AProg) (t : TypeId) (m k v : AV) (st : Sto) : Option Sto :=
  (assoc t A.tab).bind fun td => match td.k with
    | .map kt _ => (assoc kt A.tab).bind fun tk => if keyOk tk k then setM m k v st else none
    | _ => none

def entM (zero : Option AV) (m k : AV) (st : Sto) : Option (AV × Sto) := match m with
  | .mr id => match st[id]? with
    | some (.map es) => (keyNo k es 0).bind fun r => match r with
        | some (i, v) => some (.tup [v, .int .i64 i], st)
        | none => zero.bind fun z => some (.tup [z, .int .i64 es.length], st.set id (.map (es ++ [(k, z)])))
    | _ => none
  | _ => none

def mapEntryA (A : AProg) (t : TypeId) (m k : AV) (st : Sto) : Option (AV × Sto) :=
  (assoc t A.tab).bind fun td => match td.k with
    | .map kt et => (assoc kt A.tab).bind fun tk => (assoc et A.tab).bind fun te => if keyOk tk k then entM (pack te.isAgg te.zero) m k st else none
    | _ => none

def entrySet (m s v : AV) (st : Sto) : Option Sto :=
  match m, s with
  | .mr id, .int _ i => match st[id]? with
    | some (.map es) => if 0 ≤ i ∧ known v = true then match es[i.toNat]? with
        | some (k, _) => some (st.set id (.map (es.set i.toNat (k, v))))
        | none => none
      else none
    | _ => none
  | _, _ => none

/-! ### Range -/
def nextA (x : AV) (isString : Bool) (st : Sto) : Option (AV × Sto) :=
  match x with
  | .it id => match st[id]? with
    | some (.iter s pos) => if isString then
      (if pos < s.size then some (.tup [.bool true, .int .i64 pos, .int .i32 (Utf8.decode s pos).1], st.set id (.iter s (pos + (Utf8.decode s pos).2)))
      else some (.tup [.bool false], st)) else none
    | _ => none
  | _ => none

/-! ### Interfaces -/
def asrt (zero : Option AV) (t : TypeId) (ok : Bool) (x : AV) : Option AV := match x with
  | .nili => if ok then zero.bind fun z => some (.tup [z, .bool false]) else none
  | .ifc t' v => if t' = t then some (if ok then .tup [v, .bool true] else v) else if ok then zero.bind fun z => some (.tup [z, .bool false]) else none
  | _ => none

def assertA (A : AProg) (x : AV) (asserted : TypeId) (ok : Bool) : Option AV :=
  (assoc asserted A.tab).bind fun td => match td.k with
    | .iface _ => none
    | _ => asrt (pack td.isAgg td.zero) asserted ok x

/-! ### Functions told by rules of their own -/
def bldAdd (id : Nat) (t : ByteArray) (st : Sto) : Option Sto := match st[id]? with
  | some (.bld s) => if s.size + t.size ≤ 70368744177664 then some (st.set id (.bld (s ++ t))) else none
  | _ => none
def bldGet (id : Nat) (st : Sto) : Option ByteArray := match st[id]? with
  | some (.bld s) => some s
  | _ => none
def byteOf (n : Int) : ByteArray := ⟨#[UInt8.ofNat n.toNat]⟩

def primA (p : Prim) (args : List AV) (st : Sto) : Option (Out × Sto) :=
  match p, args with
  | .noEscape, [x] => some (.ret x, st)
  | .bldByte, [.mp id 0 0, .int .u8 c] => if 0 ≤ c ∧ c < 256 then (bldAdd id (byteOf c) st).bind fun st' => some (.ret .nili, st') else none
  | .bldStr, [.mp id 0 0, .str t] => (bldAdd id t st).bind fun st' => some (.ret (.tup [.int .i64 t.size, .nili]), st')
  | .bldString, [.mp id 0 0] => (bldGet id st).bind fun s => some (.ret (.str s), st)
  | .bldLen, [.mp id 0 0] => (bldGet id st).bind fun s => some (.ret (.int .i64 s.size), st)
  | .index, [.str s, .str t] => if s.size < 4294967281 then some (.ret (.int .i64 (Lib.index s.data.toList t.data.toList)), st) else none
  | .indexByte, [.str s, .int .u8 c] => some (.ret (.int .i64 (Lib.indexByte s.data.toList c.toNat.toUInt8)), st)
  | .itoa, [.int .i64 n] => if -9223372036854775808 ≤ n ∧ n ≤ 9223372036854775807 then some (.ret (.str ⟨(Lib.itoa n).toArray⟩), st) else none
  | .atoi t, [.str s] => if s.size ≤ 281474976710656 then match Lib.atoiAll s.data.toList with
      | .ok v => some (.ret (.tup [.int .i64 v, .nili]), st)
      | .syntax => some (.ret (.tup [.int .i64 0, .ifc t .any]), st)
      | .range => some (.ret (.tup [.int .i64 (Lib.atoiSat s.data.toList), .ifc t .any]), st)
    else none
  | _, _ => none

abbrev Call := FuncId → List AV → Sto → Option (Out × Sto)

/-! ### Operations -/
section
variable {R : Type}
def one (r : Option AV) (st : Sto) (k : Out → Sto → Option R) : Option R := r.bind fun v => k (.ret v) st
def two (r : Option (AV × Sto)) (k : Out → Sto → Option R) : Option R := r.bind fun x => k (.ret x.1) x.2
def unit (r : Option Sto) (k : Out → Sto → Option R) : Option R := r.bind fun st => k (.ret (.tup [])) st

def binK (td : TD) (flat : List FK) (lit : Bool) (op : BinOp) (x y : AV) (c : AV → Option R) : Option R :=
  match td.k with
  | .int ik => (asI ik x).bind fun a => match op with
    | .shl | .shr => (asInt y).bind fun b => binI op ik a b c
    | _ => (asI ik y).bind fun b => binI op ik a b c
  | .str => (asS x).bind fun a => (asS y).bind fun b => binS op a b c
  | _ => match op with
    | .eql => (eqV (ekOf td.k) flat lit x y).bind fun b => c (.bool b)
    | .neq => (eqV (ekOf td.k) flat lit x y).bind fun b => c (.bool (!b))
    | _ => none

def unK (td : TD) (op : UnOp) (x : AV) (c : AV → Option R) : Option R :=
  match op with
  | .neg => match td.k with
    | .int ik => (asI ik x).bind fun a => c (.int ik (ik.wrap (0 - a)))
    | _ => none
  | .xor => match td.k with
    | .int ik => (asI ik x).bind fun a => c (.int ik (xorI ik (if ik.signed then -1 else ik.max) a))
    | _ => none
  | .not => (asB x).bind fun b => c (.bool (!b))
  | .plus => none

/-- What a text shares is written no more. -/
def freezeA (x : AV) (st : Sto) : Option Sto := match x with
  | .ms id g off len es => if len = 0 then none else match st[id]? with
    | some (.cells g' cs fz) => if g' = g then some (st.set id (.cells g' cs (cs.length + 1))) else none
    | _ => none
  | _ => none

def convK (A : AProg) (wr : Bool) (src dst : TypeId) (x : AV) (st : Sto) (k : Out → Sto → Option R) : Option R :=
  (assoc src A.tab).bind fun ts => (assoc dst A.tab).bind fun td => match td.k with
    | .int ik => (asInt x).bind fun n => k (.ret (.int ik (ik.wrap n))) st
    | .str => match ts.k with
      | .slice e => (assoc e A.tab).bind fun te => match te.k with
        | .int .u8 => (toText st x).bind fun s => k (.ret (.str s)) st
        | _ => none
      | .str => (asS x).bind fun s => k (.ret (.str s)) st
      | _ => (asInt x).bind fun n => k (.ret (.str (Utf8.encode n))) st
    | .slice e => match ts.k with
      | .str => (assoc e A.tab).bind fun te => match te.k with
        | .int .u8 => (asS x).bind fun s => two (toBytes wr s st) k
        | _ => none
      | .slice _ => if src = dst then (assoc e A.tab).bind fun te => match te.k with
        | .int .u8 => (freezeA x st).bind fun st' => k (.ret x) st'
        | _ => none
        else none
      | _ => none
    | _ => none

/-- A slice of an array that is a variable. -/
def arrCut (n size : Nat) (x : AV) (lo hi : Option AV) (st : Sto) : Option AV := match x with
  | .mp id g off => match st[id]? with
    | some (.cells g' cs _) => if g' = g ∧ off + n * size ≤ cs.length then (bnd n n hi).bind fun h => (bnd 0 h lo).bind fun l => some (.ms id g (off + l * size) (h - l) size) else none
    | _ => none
  | _ => none

def sliceK (A : AProg) (t : TypeId) (x : AV) (lo hi mx : Option AV) (st : Sto) (c : AV → Option R) : Option R :=
  match mx with
  | some _ => none
  | none => (assoc t A.tab).bind fun td => match td.k with
    | .str => (asS x).bind fun s => (bnd s.size s.size hi).bind fun h => (bnd 0 h lo).bind fun l => c (.str (s.extract l h))
    | .slice e => (assoc e A.tab).bind fun te => (cutL te.size x lo hi).bind c
    | .arr n e => (assoc e A.tab).bind fun te => (arrCut n te.size x lo hi st).bind c
    | _ => none

def indexK (A : AProg) (t : TypeId) (x i : AV) (c : AV → Option R) : Option R :=
  (assoc t A.tab).bind fun td => match td.k with
    | .str => (asS x).bind fun s => (asInt i).bind fun i => (idx i s.size).bind fun j => c (byteAt s j)
    | .arr n e => (assoc e A.tab).bind fun te => (ixArr te.isAgg n te.size x i).bind c
    | _ => none

def lenK (A : AProg) (t : TypeId) (x : AV) (st : Sto) (c : AV → Option R) : Option R :=
  (assoc t A.tab).bind fun td => match td.k with
    | .str => (asS x).bind fun s => c (.int .i64 (s.size : Nat))
    | .arr n _ => c (.int .i64 (n : Nat))
    | .slice _ => (lenL x).bind fun n => c (.int .i64 (n : Nat))
    | .map _ _ => (lenM x st).bind fun n => c (.int .i64 (n : Nat))
    | _ => none

def mxI (a b : Int) : Int := if b > a then b else a
def mnI (a b : Int) : Int := if b < a then b else a

def builtinK (A : AProg) (wr : Bool) (b : Builtin) (argTypes : List TypeId) (args : List AV) (st : Sto) (k : Out → Sto → Option R) : Option R :=
  match b, argTypes, args with
  | .len, [t], [x] => lenK A t x st fun v => k (.ret v) st
  | .append, [t, tx], [x, y] => two (appendA A wr t tx x y st) k
  | .max, _, [x, y] => (asI .i64 x).bind fun a => (asI .i64 y).bind fun b => k (.ret (.int .i64 (mxI a b))) st
  | .min, _, [x, y] => (asI .i64 x).bind fun a => (asI .i64 y).bind fun b => k (.ret (.int .i64 (mnI a b))) st
  | _, _, _ => none

def callA (A : AProg) (C : Call) (f : FuncId) (args : List AV) (st : Sto) : Option (Out × Sto) :=
  match assoc f A.prims with
  | some p => primA p args st
  | none => bif Nat.beq f rnd then none else C f args st

def invokeA (A : AProg) (C : Call) (f : AV) (args : List AV) (st : Sto) : Option (Out × Sto) :=
  match f with
  | .fn (.func f) first cap => callA A C f (first ++ args ++ cap) st
  | .yl id => C rnd (.yl id :: args) st
  | _ => none

/-- The call that a range over a function makes. -/
def rangeA (A : AProg) (C : Call) (f : AV) (args : List AV) (st : Sto) : Option (Out × Sto) :=
  match f with
  | .fn (.func f) first cap => match assoc f A.prims with
    | some _ => none
    | none => bif Nat.beq f rnd then none else C f (first ++ args ++ cap) st
  | _ => none

def nilCk (x : AV) : Option AV := match x with
  | .ip cs => some (.ip cs)
  | .mp i g o => some (.mp i g o)
  | .fn (.func f) a b => some (.fn (.func f) a b)
  | .yl id => some (.yl id)
  | .ifc t v => some (.ifc t v)
  | _ => none

def pickK (c a b : AV) (k : AV → Option R) : Option R := (asB c).bind fun t => bif t then (asB a).bind fun x => k (.bool x) else (asB b).bind fun x => k (.bool x)

def ext (x : AV) (i : Nat) : Option AV := match x with
  | .tup vs => vs[i]?
  | _ => none

def doOp (A : AProg) (C : Call) (wr : Bool) (ev : Operand → AV) (o : Oper) (st : Sto) (k : Out → Sto → Option R) : Option R :=
  match o.op with
  | .move x | .assign x => k (.ret (ev x)) st
  | .pick c a b => pickK (ev c) (ev a) (ev b) fun v => k (.ret v) st
  | .alloc t => (assoc t A.tab).bind fun td => if t = A.bld then k (.ret (.mp st.length 0 0)) (st ++ [.bld ByteArray.empty])
    else k (.ret (.mp st.length 0 0)) (st ++ [.cells 0 td.zero 0])
  | .box _ x => if (ev x).cells.all AV.isCell = true then k (.ret (.mp st.length 0 0)) (st ++ [.cells 0 (ev x).cells 0]) else none
  | .build t parts => one (build A t (parts.toList.map fun (i, x) => (i, ev x))) st k
  | .buildSlice t len parts => two (buildSlice A wr t len (parts.toList.map fun (i, x) => (i, ev x)) st) k
  | .load t a => (assoc t A.tab).bind fun td => one (ld td.isAgg td.size st (ev a)) st k
  | .store t a x => (assoc t A.tab).bind fun td => unit (sto td.size st (ev a) (ev x)) k
  | .nilCheck x => one (nilCk (ev x)) st k
  | .binOp op t x y _ => (assoc t A.tab).bind fun td => binK td ((assoc t A.eqs).getD []) (isNilConst x || isNilConst y) op (ev x) (ev y) fun v => k (.ret v) st
  | .unOp op t x => (assoc t A.tab).bind fun td => unK td op (ev x) fun v => k (.ret v) st
  | .convert src dst x => convK A wr src dst (ev x) st k
  | .makeInterface t x => (assoc t A.tab).bind fun td => match td.k with | .iface _ => none | _ => k (.ret (.ifc t (ev x))) st
  | .makeFunc f first cap => match f with | .yield _ => none | f => k (.ret (.fn f (first.toList.map ev) (cap.toList.map ev))) st
  | .makeMap t none => k (.ret (.mr st.length)) (st ++ [.map []])
  | .makeSlice t l c => two (makeSlice A t (ev l) (ev c) st) k
  | .slice t x lo hi mx => sliceK A t (ev x) (lo.map ev) (hi.map ev) (mx.map ev) st fun v => k (.ret v) st
  | .fieldAddr s x f => one (fieldAddr A s (ev x) f) st k
  | .field s x f => one (field A s (ev x) f) st k
  | .indexAddr t x i => one (indexAddr A t (ev x) (ev i)) st k
  | .index t x i => indexK A t (ev x) (ev i) fun v => k (.ret v) st
  | .lookup t m key ok => one (lookupA A t (ev m) (ev key) ok st) st k
  | .mapUpdate t m key v | .insert t m key v => unit (mapSet A t (ev m) (ev key) (ev v) st) k
  | .range t x => (assoc t A.tab).bind fun td => match td.k with
    | .str => (asS (ev x)).bind fun s => k (.ret (.it st.length)) (st ++ [.iter s 0])
    | _ => none
  | .next x b => two (nextA (ev x) b st) k
  | .typeAssert x _ t ok => one (assertA A (ev x) t ok) st k
  | .extract x i => one (ext (ev x) i) st k
  | .panic x => match ev x with | .ifc t v => k (.pan (.ifc t v)) st | _ => none
  | .call c => match c.callee with
    | .builtin b => builtinK A wr b c.argTypes.toList (c.args.toList.map ev) st k
    | .value f => (invokeA A C (ev f) (c.args.toList.map ev) st).bind fun x => k x.1 x.2
    | .invoke _ _ => none
  | _ => none
end

end Go.St
