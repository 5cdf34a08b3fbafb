import GoSem.Core.Code
import GoSem.Core.Machine
import GoSem.Op.String
import GoSem.Core.Utf8
import Derived.Lib.Index
import Derived.Lib.Bytealg
import Derived.Lib.ItoaNum
import Derived.Lib.AtoiAll
import GoSem.Core.Region
import GoSem.Machine.Frame
import Derived.Below
import Derived.Calls
import Derived.Orders
import Derived.Deep.AppendSrc
import Derived.Laws.MakeOwn
import Derived.Laws.Tables
import Derived.Laws.Entries
import Derived.Lib.FrozenHead
import Derived.Laws.StructEq
import Derived.Laws.BytesString
import Derived.Laws.IdiomStrings
namespace Go.St
inductive Tok where
 | no
 | full
 | tip (id g es:Nat)
 | cut (n:Nat)
 deriving Inhabited
def Tok.most (len:Nat):Tok→Nat
 | .cut n=>n
 | _=>len
def Tok.part (len h l:Nat):Tok→Tok
 | .cut n => .cut (n - l)
 | t=>if h = len then t else .cut (len - l)
inductive AV where
 | any
 | one
 | bool (b:Bool)
 | int (k:IntKind) (n:Int)
 | str (s:ByteArray)
 | nilp
 | ip (cells:List AV)
 | mp (id g off:Nat)
 | nils
 | is (row:List AV) (len:Nat) (tok:Tok)
 | ms (id g off len es:Nat)
 | nilm
 | mr (id:Nat)
 | fn (f:Fn) (first captured:List AV)
 | nilfn
 | ifc (t:TypeId) (v:AV)
 | nili
 | agg (cs:List AV)
 | tup (vs:List AV)
 | it (id:Nat)
 | yl (id:Nat)
 deriving Inhabited
def AV.cells:AV→List AV
 | .agg cs=>cs
 | v=>[v]
def AV.isCell:AV→Bool
 | .agg _ | .tup _ | .any=>false
 | _=>true
def Tok.old (n:Nat):Tok→Bool
 | .tip id _ _=>decide (id < n)
 | _=>true
mutual
def AV.old (n:Nat):AV→Bool
 | .ip cs=>olds n cs
 | .mp id _ _ | .ms id _ _ _ _ | .mr id | .it id | .yl id=>decide (id < n)
 | .is row _ tok=>olds n row && tok.old n
 | .fn f a b=>olds n a && olds n b && (match f with | .yield _=>false | _=>true)
 | .ifc _ v=>v.old n
 | .agg cs=>olds n cs
 | .tup vs=>olds n vs
 | _=>true
def olds (n:Nat):List AV→Bool
 | []=>true
 | v :: r=>v.old n && olds n r
end
def Tok.strip (n:Nat):Tok→Tok
 | .tip id g es=>if id < n then .tip id g es else .no
 | t=>t
mutual
def AV.strip (n:Nat):AV→AV
 | .ip cs => .ip (strips n cs)
 | .is row len tok => .is (strips n row) len (tok.strip n)
 | .fn f a b => .fn f (strips n a) (strips n b)
 | .ifc t v => .ifc t (v.strip n)
 | .agg cs => .agg (strips n cs)
 | .tup vs => .tup (strips n vs)
 | v=>v
def strips (n:Nat):List AV→List AV
 | []=>[]
 | v :: r=>v.strip n :: strips n r
end
abbrev Path:=List Nat
structure a1o where
 state:LoopState
 pending:Option Code
 fn:FuncId
 env:List AV
 params:List Tmp
 assign:Code
 body:Code
 path:Path
 deriving Inhabited
inductive Ob where
 | dead
 | cells (g:Nat) (cs:List AV) (fz:Nat)
 | tip (g:Nat)
 | bld (s:ByteArray)
 | iter (s:ByteArray) (pos:Nat)
 | map (es:List (AV × AV))
 | loop (l:a1o)
 deriving Inhabited
abbrev Sto:=List Ob
def Ob.old (n:Nat):Ob→Bool
 | .cells _ cs _=>olds n cs
 | .map es=>es.all fun e=>e.1.old n && e.2.old n
 | .loop l=>olds n l.env
 | _=>true
inductive TK where
 | bool
 | int (k:IntKind)
 | str
 | ptr (e:TypeId)
 | slice (e:TypeId)
 | arr (n:Nat) (e:TypeId)
 | struct (fs:List (Nat × TypeId))
 | map (k e:TypeId)
 | func
 | iface (methods:Nat)
 | tuple
 | unsafeP
 | other
 deriving Inhabited
structure TD where
 k:TK
 size:Nat
 bytes:Nat
 zero:List AV
 deriving Inhabited
def TD.isAgg (td:TD):Bool:=match td.k with | .arr _ _ | .struct _=>true | _=>false
inductive Out where
 | ret (v:AV)
 | pan (v:AV)
 deriving Inhabited
def Out.on {R:Type} (o:Out) (f g:AV→R):R:=match o with
 | .ret v=>f v
 | .pan v=>g v
inductive AItem where
 | code (p:Path) (c:Code)
 | blk (id:Nat)
 | lp (p:Path) (body:Code)
 | scope (p:Path) (body:Code)
 | begin
 deriving Inhabited
structure a3I where
 f:AV
 args:List AV
 deriving Inhabited
structure a0o where
 keeps:List (Path × List Nat):=[]
 stops:List Path:=[]
 muts:List (Nat × Nat):=[]
 acts:List (Nat × Nat):=[]
 deriving Inhabited
inductive Prim where
 | noEscape
 | bldByte | bldStr | bldString | bldLen
 | index | indexByte
 | itoa | atoi (t:TypeId)
 deriving Inhabited
inductive FK where
 | b | i | s
 deriving DecidableEq,Inhabited
structure P2 where
 fns:List (FuncId × Func)
 tab:List (TypeId × TD)
 eqs:List (TypeId × List FK)
 notes:List (FuncId × a0o)
 globs:List (Nat × List AV)
 prims:List (FuncId × Prim)
 bld:TypeId
 u8:TypeId
 draws:Bool:=false
 tips:List FuncId:=[]
 raws:List FuncId:=[]
 frzs:List FuncId:=[]
def P2.mode (A:P2) (f:FuncId):Nat:=bif A.tips.contains f then 1 else bif A.raws.contains f then 2 else bif A.frzs.contains f then 3 else 0
def P0 {α:Type} (k:Nat):List (Nat × α)→Option α
 | []=>none
 | (j,a) :: r=>if j = k then some a else P0 k r
def assocP {α:Type} (k:Path):List (Path × α)→Option α
 | []=>none
 | (j,a) :: r=>if j = k then some a else assocP k r
structure Cfg where
 f:FuncId
 todo:List AItem
 env:List AV
 dfr:List a3I
 rc:Option AV
 st:Sto
 rd:Option Nat:=none
def rnd:FuncId:=1000000007
structure Res where
 out:Out
 rc:Option AV
 st:Sto
end Go.St
namespace Go.St
set_option linter.unusedVariables false
def a2S:Value→AV
 | .bool b => .bool b
 | .int k n => .int k n
 | .string s => .str s
 | .pointer none => .nilp
 | .slice none 0 0 => .nils
 | .map none => .nilm
 | .nilFunc => .nilfn
 | .nilIface => .nili
 | _ => .any
def ofConst:Value→AV
 | .agg cs => .agg (cs.toList.map a2S)
 | v=>a2S v
def evA (A:P2) (env:List AV):Operand→AV
 | .tmp t=>env.getD t (.tup [])
 | .const v=>ofConst v
 | .global g=>match P0 g A.globs with | some cs => .ip cs | none => .any
 | .func f => .fn (.func f) [] []
def V7 (st:Sto) (p:AV) (n:Nat):Option (List AV):=
 match p with
 | .ip cs=>if n ≤ cs.length then some (cs.take n) else none
 | .mp id g off=>match st[id]? with
  | some (.cells g' cs _)=>if g' = g∧off + n ≤ cs.length then some ((cs.drop off).take n) else none
  | _=>none
 | _=>none
def pack (agg:Bool) (cs:List AV):Option AV:=
 if agg then some (.agg cs) else match cs with
  | [c]=>some c
  | _=>none
def ld (agg:Bool) (n:Nat) (st:Sto) (p:AV):Option AV:=(V7 st p n).bind (pack agg)
def splice {α:Type} (xs:List α) (off:Nat) (ys:List α):List α:=xs.take off ++ (ys ++ xs.drop (off + ys.length))
def W6 (st:Sto) (p:AV) (vs:List AV):Option Sto:=
 match p with
 | .mp id g off=>match st[id]? with
  | some (.cells g' cs fz)=>
   if g' = g∧fz ≤ off∧off + vs.length ≤ cs.length∧vs.all AV.isCell = true then some (st.set id (.cells g' (splice cs off vs) fz)) else none
  | _=>none
 | _=>none
def sto (n:Nat) (st:Sto) (p v:AV):Option Sto:=if v.cells.length = n then W6 st p v.cells else none
def O9 (place:Nat→Option (Nat × Nat)):List AV→List (Nat × AV)→Option (List AV)
 | cells,[]=>some cells
 | cells,(i,v) :: rest=>
  match place i with
  | none=>none
  | some (off,size)=>
   if v.cells.length = size∧off + size ≤ cells.length∧v.cells.all AV.isCell = true then O9 place (splice cells off v.cells) rest else none
def placesOf (A:P2):List (Nat × TypeId)→Option (List (Nat × Nat))
 | []=>some []
 | (off,t) :: r=>(P0 t A.tab).bind fun td=>(placesOf A r).bind fun l=>some ((off,td.size) :: l)
def X3 (r:Option (List AV)):Option AV:=r.bind fun cs=>some (.agg cs)
def build (A:P2) (t:TypeId) (parts:List (Nat × AV)):Option AV:=
 (P0 t A.tab).bind fun td=>match td.k with
  | .struct fs=>(placesOf A fs).bind fun pl=>X3 (O9 (fun i=>pl[i]?) td.zero parts)
  | .arr _ e=>(P0 e A.tab).bind fun te=>X3 (O9 (fun i=>some (i * te.size,te.size)) td.zero parts)
  | _=>none
def a2k {α:Type} (n:Nat) (z:List α):List α:=match n with
 | 0=>[]
 | n + 1=>z ++ a2k n z
def S8 (wr:Bool) (len size:Nat) (r:Option (List AV)) (st:Sto):Option (AV × Sto):=
 r.bind fun cs=>if wr then some (.ms st.length 0 0 len size,st ++ [.cells 0 cs 0]) else some (.is cs len .full,st)
def buildSlice (A:P2) (wr:Bool) (t:TypeId) (len:Nat) (parts:List (Nat × AV)) (st:Sto):Option (AV × Sto):=
 (P0 t A.tab).bind fun td=>match td.k with
  | .slice e=>(P0 e A.tab).bind fun te=>
   if len * te.size ≤ 16777216 then S8 wr len te.size (O9 (fun i=>some (i * te.size,te.size)) (a2k len te.zero) parts) st else none
  | _=>none
def fa (off size:Nat) (p:AV):Option AV:=
 match p with
 | .ip cs=>if off + size ≤ cs.length then some (.ip ((cs.drop off).take size)) else none
 | .mp id g o=>some (.mp id g (o + off))
 | _=>none
def fieldAddr (A:P2) (s:TypeId) (p:AV) (f:Nat):Option AV:=
 (P0 s A.tab).bind fun td=>match td.k with
  | .struct fs=>(fs[f]?).bind fun x=>(P0 x.2 A.tab).bind fun tf=>if tf.size = 0 then none else fa x.1 tf.size p
  | _=>none
def partA (agg:Bool) (size:Nat) (cs:List AV) (off:Nat):Option AV:=
 if agg then (if off + size ≤ cs.length then some (.agg ((cs.drop off).take size)) else none) else cs[off]?
def fieldOf (agg:Bool) (off size:Nat) (x:AV):Option AV:=match x with
 | .agg cs=>partA agg size cs off
 | _=>none
def field (A:P2) (s:TypeId) (x:AV) (f:Nat):Option AV:=
 (P0 s A.tab).bind fun td=>match td.k with
  | .struct fs=>(fs[f]?).bind fun y=>(P0 y.2 A.tab).bind fun tf=>fieldOf tf.isAgg y.1 tf.size x
  | _=>none
def idx (i:Int) (n:Nat):Option Nat:=if 0 ≤ i∧i < n then some i.toNat else none
def ia (size:Nat) (x i:AV):Option AV:=
 match x,i with
 | .is row len _, .int _ i=>(idx i len).bind fun j=>if (j + 1) * size ≤ row.length then some (.ip ((row.drop (j * size)).take size)) else none
 | .ms id g off len es, .int _ i=>if es = size then (idx i len).bind fun j=>some (.mp id g (off + j * size)) else none
 | _,_=>none
def a03 (n size:Nat) (x i:AV):Option AV:=
 match x,i with
 | .ip cs, .int _ i=>(idx i n).bind fun j=>if (j + 1) * size ≤ cs.length then some (.ip ((cs.drop (j * size)).take size)) else none
 | .mp id g off, .int _ i=>(idx i n).bind fun j=>some (.mp id g (off + j * size))
 | _,_=>none
def indexAddr (A:P2) (t:TypeId) (x i:AV):Option AV:=
 (P0 t A.tab).bind fun td=>match td.k with
  | .slice e=>(P0 e A.tab).bind fun te=>ia te.size x i
  | .arr n e=>(P0 e A.tab).bind fun te=>a03 n te.size x i
  | _=>none
def byt (s:ByteArray) (i:Nat):Int:=(s.get! i).toNat
def byteAt (s:ByteArray) (i:Nat):AV := .int .u8 (byt s i)
def ixArr (agg:Bool) (n size:Nat) (x i:AV):Option AV:=match x,i with
 | .agg cs, .int _ i=>(idx i n).bind fun j=>partA agg size cs (j * size)
 | _,_=>none
def andI (k:IntKind) (x y:Int):Int:=k.wrap (BitVec.ofInt k.bits x &&& BitVec.ofInt k.bits y).toNat
def orI (k:IntKind) (x y:Int):Int:=k.wrap (BitVec.ofInt k.bits x ||| BitVec.ofInt k.bits y).toNat
def xorI (k:IntKind) (x y:Int):Int:=k.wrap (BitVec.ofInt k.bits x ^^^ BitVec.ofInt k.bits y).toNat
def andNotI (k:IntKind) (x y:Int):Int:=k.wrap (BitVec.ofInt k.bits x &&& ~~~(BitVec.ofInt k.bits y)).toNat
def shlI (k:IntKind) (x y:Int):Int:=k.wrap (x * 2 ^ min y.toNat k.bits)
def shrI (k:IntKind) (x y:Int):Int:=x.fdiv (2 ^ min y.toNat k.bits)
def Z6 (x y:ByteArray):Bool:=Op.bytesLess x.data.toList y.data.toList
def asI (k:IntKind) (x:AV):Option Int:=match x with
 | .int k' n=>if k' = k then some n else none
 | _=>none
def asInt (x:AV):Option Int:=match x with
 | .int _ n=>some n
 | _=>none
def asS (x:AV):Option ByteArray:=match x with
 | .str s=>some s
 | _=>none
def asB (x:AV):Option Bool:=match x with
 | .bool b=>some b
 | _=>none
section
variable {R:Type}
def binI (op:BinOp) (k:IntKind) (x y:Int) (c:AV→Option R):Option R:=
 match op with
 | .add=>c (.int k (k.wrap (x + y)))
 | .sub=>c (.int k (k.wrap (x - y)))
 | .mul=>c (.int k (k.wrap (x * y)))
 | .quo=>if y = 0 then none else c (.int k (k.wrap (x.tdiv y)))
 | .rem=>if y = 0 then none else c (.int k (x.tmod y))
 | .and=>c (.int k (andI k x y))
 | .or=>c (.int k (orI k x y))
 | .xor=>c (.int k (xorI k x y))
 | .andNot=>c (.int k (andNotI k x y))
 | .shl=>if y < 0 then none else c (.int k (shlI k x y))
 | .shr=>if y < 0 then none else c (.int k (shrI k x y))
 | .eql=>c (.bool (decide (x = y)))
 | .neq=>c (.bool (!decide (x = y)))
 | .lss=>c (.bool (decide (x < y)))
 | .leq=>c (.bool (decide (x ≤ y)))
 | .gtr=>c (.bool (decide (y < x)))
 | .geq=>c (.bool (decide (y ≤ x)))
def binS (op:BinOp) (x y:ByteArray) (c:AV→Option R):Option R:=
 match op with
 | .add=>if x.size + y.size ≤ 9223372036854775807 then c (.str (x ++ y)) else none
 | .eql=>c (.bool (decide (x = y)))
 | .neq=>c (.bool (!decide (x = y)))
 | .lss=>c (.bool (Z6 x y))
 | .leq=>c (.bool (Z6 x y || decide (x = y)))
 | .gtr=>c (.bool (!(Z6 x y || decide (x = y))))
 | .geq=>c (.bool (!Z6 x y))
 | _=>none
end
def eqCell:AV→AV→Option Bool
 | .int k x, .int k' y=>if k = k' then some (decide (x = y)) else none
 | .str x, .str y=>some (decide (x = y))
 | .bool x, .bool y=>some (x == y)
 | _,_=>none
def eqF:FK→AV→AV→Option Bool
 | .i, .int k x, .int k' y=>if k = k' then some (decide (x = y)) else none
 | .s, .str x, .str y=>some (decide (x = y))
 | .b, .bool x, .bool y=>some (x == y)
 | _,_,_=>none
def a0n:List FK→List AV→List AV→Option Bool
 | [],[],[]=>some true
 | k :: ks,x :: xs,y :: ys=>(eqF k x y).bind fun b=>if b then a0n ks xs ys else some false
 | _,_,_=>none
def R6:Operand→Bool
 | .const _=>true
 | _=>false
inductive EK where
 | bool | ptr | slice | map | func | iface | struct | none
def ekOf:TK→EK
 | .bool => .bool
 | .ptr _ => .ptr
 | .slice _ => .slice
 | .map _ _ => .map
 | .func => .func
 | .iface _ => .iface
 | .struct _ => .struct
 | _ => .none
def eqV (k:EK) (flat:List FK) (lit:Bool) (x y:AV):Option Bool:=
 match k with
 | .bool=>match x,y with
  | .bool a, .bool b=>some (a == b)
  | _,_=>none
 | .ptr=>match x,y with
  | .nilp, .nilp=>some true
  | .nilp, .ip _ | .nilp, .mp _ _ _ | .ip _, .nilp | .mp _ _ _, .nilp=>some false
  | _,_=>none
 | .slice=>match x,y with
  | .nils, .nils=>some true
  | .nils, .is _ _ _ | .nils, .ms _ _ _ _ _ | .is _ _ _, .nils | .ms _ _ _ _ _, .nils=>some false
  | _,_=>none
 | .map=>match x,y with
  | .nilm, .nilm=>some true
  | .nilm, .mr _ | .mr _, .nilm=>some false
  | _,_=>none
 | .func=>match x,y with
  | .nilfn, .nilfn=>some true
  | .nilfn, .fn _ _ _ | .fn _ _ _, .nilfn=>some false
  | _,_=>none
 | .iface=>match x,y with
  | .nili, .nili=>if lit then some true else none
  | .nili, .ifc _ _ | .ifc _ _, .nili=>some false
  | _,_=>none
 | .struct=>match x,y with
  | .agg xs, .agg ys=>if flat = [] then none else a0n flat xs ys
  | _,_=>none
 | .none=>none
def a0p (s:ByteArray):List AV:=s.data.toList.map fun b => .int .u8 b.toNat
def textOf:List AV→Option (List UInt8)
 | []=>some []
 | .int .u8 n :: r=>(textOf r).bind fun l=>some (UInt8.ofNat n.toNat :: l)
 | _ :: _=>none
def rowOf (st:Sto) (es:Nat):AV→Option (List AV)
 | .nils=>some []
 | .is row len _=>if row.length = len * es then some row else if len * es ≤ row.length then some (row.take (len * es)) else none
 | .ms id g off len es'=>if es' = es then match st[id]? with
  | some (.cells g' cs _)=>if g' = g∧off + len * es ≤ cs.length then some ((cs.drop off).take (len * es)) else none
  | _=>none
  else none
 | _=>none
def toText (st:Sto) (x:AV):Option ByteArray:=(rowOf st 1 x).bind fun row=>(textOf row).bind fun l=>some ⟨l.toArray⟩
def toBytes (wr:Bool) (s:ByteArray) (st:Sto):Option (AV × Sto):=
 if s.size ≤ 70368744177664 then (if wr then some (.ms st.length 0 0 s.size 1,st ++ [.cells 0 (a0p s) 0]) else some (.is (a0p s) s.size .no,st)) else none
def mkS (size bytes:Nat) (zero:List AV) (len cap:AV) (st:Sto):Option (AV × Sto):=
 match len,cap with
 | .int .i64 l, .int .i64 c=>
  if 0 ≤ l∧l ≤ c∧c ≤ 9223372036854775807∧bytes * c ≤ 140737488355328 then some (.ms st.length 0 0 l.toNat size,st ++ [.cells 0 (a2k l.toNat zero) 0]) else none
 | _,_=>none
def makeSlice (A:P2) (t:TypeId) (len cap:AV) (st:Sto):Option (AV × Sto):=
 (P0 t A.tab).bind fun td=>match td.k with
  | .slice e=>(P0 e A.tab).bind fun te=>mkS te.size te.bytes te.zero len cap st
  | _=>none
def bnd (d:Nat) (most:Nat):Option AV→Option Nat
 | none=>some d
 | some (.int _ i)=>if 0 ≤ i∧i ≤ most then some i.toNat else none
 | some _=>none
def a06 (size:Nat) (x:AV) (lo hi:Option AV):Option AV:=match x with
 | .nils=>(bnd 0 0 hi).bind fun h=>(bnd 0 h lo).bind fun _=>some .nils
 | .is row len tok=>(bnd len (tok.most len) hi).bind fun h=>(bnd 0 h lo).bind fun l=>
   if row.length = tok.most len * size then some (.is (row.drop (l * size)) (h - l) (tok.part len h l)) else none
 | .ms id g off len es=>(bnd len len hi).bind fun h=>(bnd 0 h lo).bind fun l=>if es = size then some (.ms id g (off + l * es) (h - l) es) else none
 | _=>none
def P3 (x:AV):Option Nat:=match x with
 | .nils=>some 0
 | .is _ n _=>some n
 | .ms _ _ _ n _=>some n
 | _=>none
def lenM (x:AV) (st:Sto):Option Nat:=match x with
 | .nilm=>some 0
 | .mr id=>match st[id]? with
   | some (.map es)=>some es.length
   | _=>none
 | _=>none
def T6 (str:Bool) (es:Nat) (st:Sto) (y:AV):Option (List AV × Nat):=
 if str then (match y with
  | .str s=>some (a0p s,s.size)
  | _=>none)
 else match y with
 | .nils=>some ([],0)
 | .is row len tok=>(rowOf st es (.is row len tok)).bind fun r=>some (r,len)
 | .ms id g off len es'=>(rowOf st es (.ms id g off len es')).bind fun r=>some (r,len)
 | _=>none
def room (bytes n:Nat):Bool:=decide (n * bytes ≤ 140737488355328∧n ≤ 4611686018427387904)
def X6 (wr str:Bool) (size bytes:Nat) (x y:AV) (st:Sto):Option (AV × Sto):=
 (T6 str size st y).bind fun (new,n)=>match x with
  | .nils=>if n = 0 then some (.nils,st) else if room bytes n = true then
    (if wr then some (.ms st.length 0 0 n size,st ++ [.cells 0 new 0]) else some (.is new n (.tip st.length 0 size),st ++ [.tip 0]))
   else none
  | .is row len .full=>if n = 0 then some (.is row len .full,st) else if row.length = len * size∧room bytes (len + n) = true then
    (if wr then some (.ms st.length 0 0 (len + n) size,st ++ [.cells 0 (row ++ new) 0]) else some (.is (row ++ new) (len + n) (.tip st.length 0 size),st ++ [.tip 0]))
   else none
  | .is row len (.tip i g es)=>if row.length = len * size∧es = size∧room bytes (len + n) = true then match st[i]? with
    | some (.tip g')=>if g' = g then some (.is (row ++ new) (len + n) (.tip i (g + 1) es),st.set i (.tip (g + 1))) else none
    | _=>none
   else none
  | .ms i g off len es=>if es = size∧room bytes (len + n) = true then match st[i]? with
    | some (.cells g' cs fz)=>if g' = g∧off + len * es ≤ cs.length∧fz = 0 then
      some (.ms i (g + 1) 0 (len + n) es,st.set i (.cells (g + 1) ((cs.drop off).take (len * es) ++ new) 0)) else none
    | _=>none
   else none
  | _=>none
def isU8 (td:TD):Bool:=match td.k with | .int .u8=>true | _=>false
def srcStr (A:P2) (te:TD) (tx:TypeId):Option Bool:=
 (P0 tx A.tab).bind fun tdx=>match tdx.k with
  | .slice _=>some false
  | .str=>if isU8 te then some true else none
  | _=>none
def appendA (A:P2) (wr:Bool) (t tx:TypeId) (x y:AV) (st:Sto):Option (AV × Sto):=
 (P0 t A.tab).bind fun td=>match td.k with
  | .slice e=>(P0 e A.tab).bind fun te=>(srcStr A te tx).bind fun b=>X6 wr b te.size te.bytes x y st
  | _=>none
def keyNo (k:AV):List (AV × AV)→Nat→Option (Option (Nat × AV))
 | [],_=>some none
 | (k',v) :: r,i=>(eqCell k k').bind fun b=>if b then some (some (i,v)) else keyNo k r (i + 1)
def keyOk (td:TD) (k:AV):Bool:=match td.k,k with
 | .int k, .int k' _=>k == k'
 | .str, .str _=>true
 | .bool, .bool _=>true
 | _,_=>false
def mapOf (m:AV) (st:Sto):Option (List (AV × AV)):=match m with
 | .nilm=>some []
 | .mr id=>match st[id]? with
  | some (.map es)=>some es
  | _=>none
 | _=>none
def lkM (zero:Option AV) (ok:Bool) (m k:AV) (st:Sto):Option AV:=
 (mapOf m st).bind fun es=>(keyNo k es 0).bind fun r=>match r with
  | some (_,v)=>some (if ok then .tup [v, .bool true] else v)
  | none=>zero.bind fun z=>some (if ok then .tup [z, .bool false] else z)
def lookupA (A:P2) (t:TypeId) (m k:AV) (ok:Bool) (st:Sto):Option AV:=
 (P0 t A.tab).bind fun td=>match td.k with
  | .map kt et=>(P0 kt A.tab).bind fun tk=>(P0 et A.tab).bind fun te=>if keyOk tk k then lkM (pack te.isAgg te.zero) ok m k st else none
  | _=>none
def known:AV→Bool
 | .any | .one=>false
 | _=>true
def setM (m k v:AV) (st:Sto):Option Sto:=if known v then match m with
 | .mr id=>match st[id]? with
  | some (.map es)=>(keyNo k es 0).bind fun r=>match r with
    | some (i,_)=>some (st.set id (.map (es.set i (k,v))))
    | none=>some (st.set id (.map (es ++ [(k,v)])))
  | _=>none
 | _=>none
 else none
def mapSet (A:P2) (t:TypeId) (m k v:AV) (st:Sto):Option Sto:=
 (P0 t A.tab).bind fun td=>match td.k with
  | .map kt _=>(P0 kt A.tab).bind fun tk=>if keyOk tk k then setM m k v st else none
  | _=>none
def nextA (x:AV) (isString:Bool) (st:Sto):Option (AV × Sto):=
 match x with
 | .it id=>match st[id]? with
  | some (.iter s pos)=>if isString then
   (if pos < s.size then some (.tup [.bool true, .int .i64 pos, .int .i32 (Utf8.decode s pos).1],st.set id (.iter s (pos + (Utf8.decode s pos).2)))
   else some (.tup [.bool false],st)) else none
  | _=>none
 | _=>none
def asrt (zero:Option AV) (t:TypeId) (ok:Bool) (x:AV):Option AV:=match x with
 | .nili=>if ok then zero.bind fun z=>some (.tup [z, .bool false]) else none
 | .ifc t' v=>if t' = t then some (if ok then .tup [v, .bool true] else v) else if ok then zero.bind fun z=>some (.tup [z, .bool false]) else none
 | _=>none
def a37 (A:P2) (x:AV) (asserted:TypeId) (ok:Bool):Option AV:=
 (P0 asserted A.tab).bind fun td=>match td.k with
  | .iface _=>none
  | _=>asrt (pack td.isAgg td.zero) asserted ok x
def bldAdd (id:Nat) (t:ByteArray) (st:Sto):Option Sto:=match st[id]? with
 | some (.bld s)=>if s.size + t.size ≤ 70368744177664 then some (st.set id (.bld (s ++ t))) else none
 | _=>none
def bldGet (id:Nat) (st:Sto):Option ByteArray:=match st[id]? with
 | some (.bld s)=>some s
 | _=>none
def byteOf (n:Int):ByteArray:=⟨#[UInt8.ofNat n.toNat]⟩
def primA (p:Prim) (args:List AV) (st:Sto):Option (Out × Sto):=
 match p,args with
 | .noEscape,[x]=>some (.ret x,st)
 | .bldByte,[.mp id 0 0, .int .u8 c]=>if 0 ≤ c∧c < 256 then (bldAdd id (byteOf c) st).bind fun st'=>some (.ret .nili,st') else none
 | .bldStr,[.mp id 0 0, .str t]=>(bldAdd id t st).bind fun st'=>some (.ret (.tup [.int .i64 t.size, .nili]),st')
 | .bldString,[.mp id 0 0]=>(bldGet id st).bind fun s=>some (.ret (.str s),st)
 | .bldLen,[.mp id 0 0]=>(bldGet id st).bind fun s=>some (.ret (.int .i64 s.size),st)
 | .index,[.str s, .str t]=>if s.size < 4294967281 then some (.ret (.int .i64 (Lib.index s.data.toList t.data.toList)),st) else none
 | .indexByte,[.str s, .int .u8 c]=>some (.ret (.int .i64 (Lib.indexByte s.data.toList c.toNat.toUInt8)),st)
 | .itoa,[.int .i64 n]=>if -9223372036854775808 ≤ n∧n ≤ 9223372036854775807 then some (.ret (.str ⟨(Lib.itoa n).toArray⟩),st) else none
 | .atoi t,[.str s]=>if s.size ≤ 281474976710656 then match Lib.atoiAll s.data.toList with
   | .ok v=>some (.ret (.tup [.int .i64 v, .nili]),st)
   | .syntax=>some (.ret (.tup [.int .i64 0, .ifc t .any]),st)
   | .range=>some (.ret (.tup [.int .i64 (Lib.atoiSat s.data.toList), .ifc t .any]),st)
  else none
 | _,_=>none
abbrev Call:=FuncId→List AV→Sto→Option (Out × Sto)
section
variable {R:Type}
def one (r:Option AV) (st:Sto) (k:Out→Sto→Option R):Option R:=r.bind fun v=>k (.ret v) st
def two (r:Option (AV × Sto)) (k:Out→Sto→Option R):Option R:=r.bind fun x=>k (.ret x.1) x.2
def unit (r:Option Sto) (k:Out→Sto→Option R):Option R:=r.bind fun st=>k (.ret (.tup [])) st
def binK (td:TD) (flat:List FK) (lit:Bool) (op:BinOp) (x y:AV) (c:AV→Option R):Option R:=
 match td.k with
 | .int ik=>(asI ik x).bind fun a=>match op with
  | .shl | .shr=>(asInt y).bind fun b=>binI op ik a b c
  | _=>(asI ik y).bind fun b=>binI op ik a b c
 | .str=>(asS x).bind fun a=>(asS y).bind fun b=>binS op a b c
 | _=>match op with
  | .eql=>(eqV (ekOf td.k) flat lit x y).bind fun b=>c (.bool b)
  | .neq=>(eqV (ekOf td.k) flat lit x y).bind fun b=>c (.bool (!b))
  | _=>none
def unK (td:TD) (op:UnOp) (x:AV) (c:AV→Option R):Option R:=
 match op with
 | .neg=>match td.k with
  | .int ik=>(asI ik x).bind fun a=>c (.int ik (ik.wrap (0 - a)))
  | _=>none
 | .xor=>match td.k with
  | .int ik=>(asI ik x).bind fun a=>c (.int ik (xorI ik (if ik.signed then -1 else ik.max) a))
  | _=>none
 | .not=>(asB x).bind fun b=>c (.bool (!b))
 | .plus=>none
def a3s (x:AV) (st:Sto):Option Sto:=match x with
 | .ms id g off len es=>if len = 0 then none else match st[id]? with
  | some (.cells g' cs fz)=>if g' = g then some (st.set id (.cells g' cs (cs.length + 1))) else none
  | _=>none
 | _=>none
def convK (A:P2) (wr:Bool) (src dst:TypeId) (x:AV) (st:Sto) (k:Out→Sto→Option R):Option R:=
 (P0 src A.tab).bind fun ts=>(P0 dst A.tab).bind fun td=>match td.k with
  | .int ik=>(asInt x).bind fun n=>k (.ret (.int ik (ik.wrap n))) st
  | .str=>match ts.k with
   | .slice e=>(P0 e A.tab).bind fun te=>match te.k with
    | .int .u8=>(toText st x).bind fun s=>k (.ret (.str s)) st
    | _=>none
   | .str=>(asS x).bind fun s=>k (.ret (.str s)) st
   | _=>(asInt x).bind fun n=>k (.ret (.str (Utf8.encode n))) st
  | .slice e=>match ts.k with
   | .str=>(P0 e A.tab).bind fun te=>match te.k with
    | .int .u8=>(asS x).bind fun s=>two (toBytes wr s st) k
    | _=>none
   | .slice _=>if src = dst then (P0 e A.tab).bind fun te=>match te.k with
    | .int .u8=>(a3s x st).bind fun st'=>k (.ret x) st'
    | _=>none
    else none
   | _=>none
  | _=>none
def arrCut (n size:Nat) (x:AV) (lo hi:Option AV) (st:Sto):Option AV:=match x with
 | .mp id g off=>match st[id]? with
  | some (.cells g' cs _)=>if g' = g∧off + n * size ≤ cs.length then (bnd n n hi).bind fun h=>(bnd 0 h lo).bind fun l=>some (.ms id g (off + l * size) (h - l) size) else none
  | _=>none
 | _=>none
def a3g (A:P2) (t:TypeId) (x:AV) (lo hi mx:Option AV) (st:Sto) (c:AV→Option R):Option R:=
 match mx with
 | some _=>none
 | none=>(P0 t A.tab).bind fun td=>match td.k with
  | .str=>(asS x).bind fun s=>(bnd s.size s.size hi).bind fun h=>(bnd 0 h lo).bind fun l=>c (.str (s.extract l h))
  | .slice e=>(P0 e A.tab).bind fun te=>(a06 te.size x lo hi).bind c
  | .arr n e=>(P0 e A.tab).bind fun te=>(arrCut n te.size x lo hi st).bind c
  | _=>none
def a3h (A:P2) (t:TypeId) (x i:AV) (c:AV→Option R):Option R:=
 (P0 t A.tab).bind fun td=>match td.k with
  | .str=>(asS x).bind fun s=>(asInt i).bind fun i=>(idx i s.size).bind fun j=>c (byteAt s j)
  | .arr n e=>(P0 e A.tab).bind fun te=>(ixArr te.isAgg n te.size x i).bind c
  | _=>none
def lenK (A:P2) (t:TypeId) (x:AV) (st:Sto) (c:AV→Option R):Option R:=
 (P0 t A.tab).bind fun td=>match td.k with
  | .str=>(asS x).bind fun s=>c (.int .i64 (s.size:Nat))
  | .arr n _=>c (.int .i64 (n:Nat))
  | .slice _=>(P3 x).bind fun n=>c (.int .i64 (n:Nat))
  | .map _ _=>(lenM x st).bind fun n=>c (.int .i64 (n:Nat))
  | _=>none
def mxI (a b:Int):Int:=if b > a then b else a
def mnI (a b:Int):Int:=if b < a then b else a
def a08 (A:P2) (wr:Bool) (b:Builtin) (argTypes:List TypeId) (args:List AV) (st:Sto) (k:Out→Sto→Option R):Option R:=
 match b,argTypes,args with
 | .len,[t],[x]=>lenK A t x st fun v=>k (.ret v) st
 | .append,[t,tx],[x,y]=>two (appendA A wr t tx x y st) k
 | .max,_,[x,y]=>(asI .i64 x).bind fun a=>(asI .i64 y).bind fun b=>k (.ret (.int .i64 (mxI a b))) st
 | .min,_,[x,y]=>(asI .i64 x).bind fun a=>(asI .i64 y).bind fun b=>k (.ret (.int .i64 (mnI a b))) st
 | _,_,_=>none
def callA (A:P2) (C:Call) (f:FuncId) (args:List AV) (st:Sto):Option (Out × Sto):=
 match P0 f A.prims with
 | some p=>primA p args st
 | none=>bif Nat.beq f rnd then none else C f args st
def V4 (A:P2) (C:Call) (f:AV) (args:List AV) (st:Sto):Option (Out × Sto):=
 match f with
 | .fn (.func f) first cap=>callA A C f (first ++ args ++ cap) st
 | .yl id=>C rnd (.yl id :: args) st
 | _=>none
def rangeA (A:P2) (C:Call) (f:AV) (args:List AV) (st:Sto):Option (Out × Sto):=
 match f with
 | .fn (.func f) first cap=>match P0 f A.prims with
  | some _=>none
  | none=>bif Nat.beq f rnd then none else C f (first ++ args ++ cap) st
 | _=>none
def O2 (x:AV):Option AV:=match x with
 | .ip cs=>some (.ip cs)
 | .mp i g o=>some (.mp i g o)
 | .fn (.func f) a b=>some (.fn (.func f) a b)
 | .yl id=>some (.yl id)
 | .ifc t v=>some (.ifc t v)
 | _=>none
def pickK (c a b:AV) (k:AV→Option R):Option R:=(asB c).bind fun t=>bif t then (asB a).bind fun x=>k (.bool x) else (asB b).bind fun x=>k (.bool x)
def ext (x:AV) (i:Nat):Option AV:=match x with
 | .tup vs=>vs[i]?
 | _=>none
def a07 (A:P2) (C:Call) (wr:Bool) (ev:Operand→AV) (o:Oper) (st:Sto) (k:Out→Sto→Option R):Option R:=
 match o.op with
 | .move x | .assign x=>k (.ret (ev x)) st
 | .pick c a b=>pickK (ev c) (ev a) (ev b) fun v=>k (.ret v) st
 | .alloc t=>(P0 t A.tab).bind fun td=>if t = A.bld then k (.ret (.mp st.length 0 0)) (st ++ [.bld ByteArray.empty])
  else k (.ret (.mp st.length 0 0)) (st ++ [.cells 0 td.zero 0])
 | .box _ x=>if (ev x).cells.all AV.isCell = true then k (.ret (.mp st.length 0 0)) (st ++ [.cells 0 (ev x).cells 0]) else none
 | .build t parts=>one (build A t (parts.toList.map fun (i,x)=>(i,ev x))) st k
 | .buildSlice t len parts=>two (buildSlice A wr t len (parts.toList.map fun (i,x)=>(i,ev x)) st) k
 | .load t a=>(P0 t A.tab).bind fun td=>one (ld td.isAgg td.size st (ev a)) st k
 | .store t a x=>(P0 t A.tab).bind fun td=>unit (sto td.size st (ev a) (ev x)) k
 | .nilCheck x=>one (O2 (ev x)) st k
 | .binOp op t x y _=>(P0 t A.tab).bind fun td=>binK td ((P0 t A.eqs).getD []) (R6 x || R6 y) op (ev x) (ev y) fun v=>k (.ret v) st
 | .unOp op t x=>(P0 t A.tab).bind fun td=>unK td op (ev x) fun v=>k (.ret v) st
 | .convert src dst x=>convK A wr src dst (ev x) st k
 | .makeInterface t x=>(P0 t A.tab).bind fun td=>match td.k with | .iface _=>none | _=>k (.ret (.ifc t (ev x))) st
 | .makeFunc f first cap=>match f with | .yield _=>none | f=>k (.ret (.fn f (first.toList.map ev) (cap.toList.map ev))) st
 | .makeMap t none=>k (.ret (.mr st.length)) (st ++ [.map []])
 | .makeSlice t l c=>two (makeSlice A t (ev l) (ev c) st) k
 | .slice t x lo hi mx=>a3g A t (ev x) (lo.map ev) (hi.map ev) (mx.map ev) st fun v=>k (.ret v) st
 | .fieldAddr s x f=>one (fieldAddr A s (ev x) f) st k
 | .field s x f=>one (field A s (ev x) f) st k
 | .indexAddr t x i=>one (indexAddr A t (ev x) (ev i)) st k
 | .index t x i=>a3h A t (ev x) (ev i) fun v=>k (.ret v) st
 | .lookup t m key ok=>one (lookupA A t (ev m) (ev key) ok st) st k
 | .mapUpdate t m key v | .insert t m key v=>unit (mapSet A t (ev m) (ev key) (ev v) st) k
 | .range t x=>(P0 t A.tab).bind fun td=>match td.k with
  | .str=>(asS (ev x)).bind fun s=>k (.ret (.it st.length)) (st ++ [.iter s 0])
  | _=>none
 | .next x b=>two (nextA (ev x) b st) k
 | .typeAssert x _ t ok=>one (a37 A (ev x) t ok) st k
 | .extract x i=>one (ext (ev x) i) st k
 | .panic x=>match ev x with | .ifc t v=>k (.pan (.ifc t v)) st | _=>none
 | .call c=>match c.callee with
  | .builtin b=>a08 A wr b c.argTypes.toList (c.args.toList.map ev) st k
  | .value f=>(V4 A C (ev f) (c.args.toList.map ev) st).bind fun x=>k x.1 x.2
  | .invoke _ _=>none
 | _=>none
end
end Go.St
namespace Go.St
set_option linter.unusedVariables false
abbrev Y5:=Cfg→Option Res
def put (env:List AV) (dst:Option Tmp) (v:AV):List AV:=match dst with
 | some d=>env.set d v
 | none=>env
def R3 (v:AV):Option (Option Bool):=match v with
 | .bool b=>some (some b)
 | .tup []=>some none
 | _=>none
def gOn {R:Type} (g:Option Bool) (no:R) (yes:Bool→R):R:=match g with
 | none=>no
 | some b=>yes b
def a0x {R:Type} (ops:Array Oper) (o:Oper) (env:List AV) (yes no:List AV→Option R):Option R:=
 match o.guard with
 | none=>yes env
 | some (j,want)=>match (ops[j]?).bind (·.dst) with
  | none=>no env
  | some t=>match env[t]? with
   | some v=>(R3 v).bind fun g=>gOn g (no (env.set t (.tup []))) fun b=>bif b then (bif want then yes (env.set t (.bool true)) else no (env.set t (.bool true)))
     else (bif want then no (env.set t (.bool false)) else yes (env.set t (.bool false)))
   | none=>no env
def wrs (nt:a0o) (rid i:Nat):Bool:=nt.muts.contains (rid,i)
section
variable {R:Type}
def a3m (A:P2) (C:Call) (nt:a0o) (rid:Nat) (ops:Array Oper) (kn:List AV→Sto→Option R) (kp:AV→Sto→Option R):List Oper→Nat→List AV→Sto→Option R
 | [],_,env,st=>kn env st
 | o :: r,i,env,st=>a0x ops o env
  (fun env=>a07 A C (wrs nt rid i) (evA A env) o st fun out st'=>out.on (fun v=>a3m A C nt rid ops kn kp r (i + 1) (put env o.dst v) st') (fun v=>kp v st'))
  (fun env=>a3m A C nt rid ops kn kp r (i + 1) (put env o.dst (.tup [])) st)
inductive Kind where
 | pure | look | read | act
def kindOf (nt:a0o) (rid i:Nat) (o:Oper):Kind:=
 match o.op with
 | .move _ | .assign _ | .pick _ _ _ | .build _ _ | .nilCheck _ | .binOp _ _ _ _ _ | .unOp _ _ _ | .makeInterface _ _ | .makeFunc _ _ _
 | .fieldAddr _ _ _ | .field _ _ _ | .indexAddr _ _ _ | .index _ _ _ | .typeAssert _ _ _ _ | .extract _ _ => .pure
 | .buildSlice _ _ _=>if wrs nt rid i then .act else .pure
 | .convert _ _ _=>if wrs nt rid i then .act else .read
 | .load _ _ | .lookup _ _ _ _ | .slice _ _ _ _ _ => .look
 | .call c=>match c.callee with
  | .builtin .append | .builtin .copy => .act
  | .builtin _ => .look
  | _=>if nt.acts.contains (rid,i) then .act else .read
 | _ => .act
structure Rd where
 i:Nat
 env:List AV
 o:Oper
 out:Out
structure DS where
 env:List AV
 st:Sto
 old:List Sto
 reads:List Rd
 acts:List Nat
open Classical in
noncomputable def again (A:P2) (C:Call) (nt:a0o) (rid:Nat) (st:Sto) (k:Option R):List Rd→Option R
 | []=>k
 | r :: l=>a07 A C (wrs nt rid r.i) (evA A r.env) r.o st fun out st'=>if (out,st') = (r.out,st) then again A C nt rid st k l else none
open Classical in
noncomputable def alike (A:P2) (C:Call) (w:Bool) (env:List AV) (o:Oper) (out:Out) (k:Option R):List Sto→Option R
 | []=>k
 | s :: l=>a07 A C w (evA A env) o s fun out' s'=>if (out',s') = (out,s) then alike A C w env o out k l else none
def a21 (b:Array Nat) (i:Nat) (l:List Nat):Nat:=(l.filter fun a=>!(b.getD i 0).testBit a).length
open Classical in
noncomputable def a3S (A:P2) (C:Call) (nt:a0o) (rid:Nat) (ops:Array Oper) (b:Array Nat) (o:Oper) (i:Nat) (d:DS) (k:DS→Option R):Option R:=
 a0x ops o d.env
  (fun env=>match kindOf nt rid i o with
  | .pure=>a07 A C (wrs nt rid i) (evA A env) o d.st fun out _=>out.on (fun v=>k { d with env:=put env o.dst v }) (fun _=>none)
  | .look=>a07 A C (wrs nt rid i) (evA A env) o d.st fun out _=>
    out.on (fun v=>alike A C (wrs nt rid i) env o (.ret v) (k { d with env:=put env o.dst v,reads:=⟨i,env,o, .ret v⟩ :: d.reads }) (d.old.take (a21 b i d.acts))) (fun _=>none)
  | .read=>a07 A C (wrs nt rid i) (evA A env) o d.st fun out st'=>
    out.on (fun v=>if st' = d.st then alike A C (wrs nt rid i) env o (.ret v) (k { d with env:=put env o.dst v,reads:=⟨i,env,o, .ret v⟩ :: d.reads }) (d.old.take (a21 b i d.acts)) else none) (fun _=>none)
  | .act=>bif a21 b i d.acts == 0 then a07 A C (wrs nt rid i) (evA A env) o d.st fun out st'=>
    out.on (fun v=>again A C nt rid st' (k { d with env:=put env o.dst v,st:=st',old:=d.st :: d.old,acts:=i :: d.acts }) (d.reads.filter fun r=>!(b.getD i 0).testBit r.i)) (fun _=>none)
   else none)
  (fun env=>k { d with env:=put env o.dst (.tup []) })
noncomputable def a0F (A:P2) (C:Call) (nt:a0o) (rid:Nat) (ops:Array Oper) (b:Array Nat) (k:DS→Option R):List Oper→Nat→DS→Option R
 | [],_,d=>k d
 | o :: r,i,d=>a3S A C nt rid ops b o i d fun d'=>a0F A C nt rid ops b k r (i + 1) d'
def slotsOf (ops:Array Oper) (o:Oper):List Tmp:=
 o.dst.toList ++ ((match o.guard with | some (j,_)=>((ops[j]?).bind (·.dst)).toList | none=>[]) ++ o.op.operands.toList.filterMap fun | .tmp t=>some t | _=>none)
def a1m (ops:Array Oper) (b:Array Nat):Bool:=
 (List.range ops.size).all fun i=>match (ops[i]?).bind (·.dst) with
  | none=>true
  | some t=>(List.range ops.size).all fun j=>i == j || (match ops[j]? with | some o=>!(slotsOf ops o).contains t | none=>true) || (b.getD (max i j) 0).testBit (min i j)
def a0a (ops:Array Oper):Bool:=
 (List.range ops.size).all fun i=>match ops[i]? with
  | none=>true
  | some o=>o.after.all fun e=>!Region.binds .any e || decide (e.on < i)
noncomputable def a1p (A:P2) (C:Call) (nt:a0o) (rid:Nat) (ops:Array Oper) (kn:List AV→Sto→Option R) (kp:AV→Sto→Option R) (env:List AV) (st:Sto):Option R:=
 bif a0a ops && a1m ops (Region.before ops) then
  a0F A C nt rid ops (Region.before ops) (fun d=>kn d.env d.st) ops.toList 0 { env:=env,st:=st,old:=[],reads:=[],acts:=[] }
 else none
end
def keep (l:List Nat):Nat→List AV→List AV
 | _,[]=>[]
 | i,v :: r=>(bif l.contains i then v else .any) :: keep l (i + 1) r
def a0o.keepAt (nt:a0o) (p:Path) (env:List AV):List AV:=match assocP p nt.keeps with
 | some l=>keep l 0 env
 | none=>env
def P2.note (A:P2) (f:FuncId):a0o:=(P0 f A.notes).getD {}
def gotoA (l:Nat):List AItem→Option (List AItem)
 | .scope p body :: k=>
  match findLabel body l with
  | some rest=>some (.code (l :: 9 :: p) rest :: .scope p body :: k)
  | none=>gotoA l k
 | _ :: k=>gotoA l k
 | []=>none
def resA (A:P2) (env:List AV) (st:Sto):List ResultVar→(List AV→Option Res)→Option Res
 | [],k=>k []
 | .tmp t :: r,k=>resA A env st r fun vs=>k (env.getD t (.tup []) :: vs)
 | .cell a t :: r,k=>(P0 t A.tab).bind fun td=>(ld td.isAgg td.size st (env.getD a (.tup []))).bind fun v=>resA A env st r fun vs=>k (v :: vs)
def tupA:List AV→AV
 | [v]=>v
 | vs => .tup vs
def a2N:List a3I→Sto→Option Sto
 | [],st=>some st
 | d :: r,st=>match d.f with
  | .yl id=>match st[id]? with
   | some (.loop _)=>a2N r (st.set id .dead)
   | _=>none
  | _=>none
def finA (A:P2) (c:Cfg):Option Res:=
 (a2N c.dfr c.st).bind fun st=>(P0 c.f A.fns).bind fun fn=>resA A c.env st fn.results.toList fun vs=>some ⟨.ret (tupA vs),c.rc,st⟩
def rBeg (st:Sto) (id:Nat):Option Sto:=match st[id]? with
 | some (.loop l)=>match l.state with
  | .ready=>some (st.set id (.loop { l with state := .busy }))
  | _=>none
 | _=>none
def rEnd (st:Sto) (id:Nat) (jump:Option Code):Option Res:=match st[id]? with
 | some (.loop l)=>some ⟨.ret (.bool jump.isNone),none,st.set id (.loop { l with state:=if jump.isNone then .ready else .done,pending:=jump })⟩
 | _=>none
def lpEnd (st:Sto) (id:Nat):Option (Option Code × Sto):=match st[id]? with
 | some (.loop l)=>match l.state with
  | .busy=>none
  | _=>some (l.pending,st.set id (.loop { l with state := .exhausted }))
 | _=>none
def jOn {R:Type} (j:Option Code) (n r:Option R) (x:Nat→Option R):Option R:=match j with
 | none=>n
 | some .ret=>r
 | some (.exit id)=>x id
 | _=>none
def exitK {R:Type} (id:Nat) (yes:List AItem→R) (no:R):List AItem→R
 | .blk id' :: k=>bif id' == id then yes k else exitK id yes no k
 | _ :: k=>exitK id yes no k
 | []=>no
def panA (c:Cfg) (v:AV) (st:Sto):Option Res:=
 match c.dfr,c.rd with
 | [],none=>some ⟨.pan v,c.rc,st⟩
 | _,_=>none
noncomputable def a2i (A:P2) (C:Call) (K:Y5) (c:Cfg):Option Res:=
 match c.todo with
 | []=>match c.rd with
  | none=>finA A c
  | some id=>rEnd c.st id none
 | .begin :: t=>c.rd.bind fun id=>(rBeg c.st id).bind fun st'=>K { c with todo:=t,st:=st' }
 | .blk _ :: t | .scope _ _ :: t=>K { c with todo:=t }
 | .lp p body :: t=>K { c with todo := .code (0 :: p) body :: .lp p body :: t }
 | .code p code :: t=>
  let env:=(A.note c.f).keepAt p c.env
  match code with
  | .skip | .label _=>K { c with todo:=t,env:=env }
  | .ret=>match c.rd with
   | none=>finA A { c with env:=env }
   | some id=>rEnd c.st id (some .ret)
  | .seq a b=>K { c with todo := .code (0 :: p) a :: .code (1 :: p) b :: t,env:=env }
  | .cond x a b=>(asB (evA A env x)).bind fun q=>bif q then K { c with todo := .code (0 :: p) a :: t,env:=env } else K { c with todo := .code (1 :: p) b :: t,env:=env }
  | .block id body=>K { c with todo := .code (0 :: p) body :: .blk id :: t,env:=env }
  | .loop body=>K { c with todo := .code (0 :: p) body :: .lp p body :: t,env:=env }
  | .scope body=>K { c with todo := .code (0 :: p) body :: .scope p body :: t,env:=env }
  | .exit id=>exitK id (fun t'=>K { c with todo:=t',env:=env }) (match c.rd with
   | none=>none
   | some l=>rEnd c.st l (some (.exit id))) t
  | .rangeFunc g ps a b=>match c.rd with
   | some _=>none
   | none=>(rangeA A C (evA A env g) [.yl c.st.length] (c.st ++ [.loop { state := .ready,pending:=none,fn:=c.f,env:=env,params:=ps.toList,assign:=a,body:=b,path:=p }])).bind fun x=>
    x.1.on (fun _=>(lpEnd x.2 c.st.length).bind fun y=>jOn y.1
     (K { c with todo:=t,env:=env,dfr:=⟨.yl c.st.length,[]⟩ :: c.dfr,st:=y.2 })
     (finA A { c with env:=env,dfr:=⟨.yl c.st.length,[]⟩ :: c.dfr,st:=y.2 })
     (fun id=>exitK id (fun t'=>K { c with todo:=t',env:=env,dfr:=⟨.yl c.st.length,[]⟩ :: c.dfr,st:=y.2 }) none t)) (fun _=>none)
  | .goto l=>(gotoA l t).bind fun t'=>K { c with todo:=t',env:=env }
  | .region rid ops draw=>
   bif draw then (bif A.draws then a1p A C (A.note c.f) rid ops (fun env' st'=>K { c with todo:=t,env:=env',st:=st' }) (panA c) env c.st else none)
   else a3m A C (A.note c.f) rid ops (fun env' st'=>K { c with todo:=t,env:=env',st:=st' }) (panA c) ops.toList 0 env c.st
  | _=>none
def a3B:List AV→List Tmp→List AV→List AV
 | env,t :: ts,v :: vs=>a3B (env.set t v) ts vs
 | env,_,_=>env
def entryR (A:P2) (args:List AV) (st:Sto):Option Cfg:=match args with
 | .yl id :: xs=>match st[id]? with
  | some (.loop l)=>(P0 l.fn A.fns).bind fun _=>bif Nat.beq xs.length l.params.length then
    some { f:=l.fn,todo:=[.code (1 :: l.path) l.assign, .begin, .code (0 :: l.path) l.body],env:=a3B l.env l.params xs,dfr:=[],rc:=none,st:=st,rd:=some id } else none
  | _=>none
 | _=>none
def entry (A:P2) (f:FuncId) (args:List AV) (st:Sto):Option Cfg:=
 bif Nat.beq f rnd then entryR A args st else (P0 f A.fns).bind fun fn=>fn.body.bind fun body=>
  some { f:=f,todo:=[.code [] body],env:=args ++ List.replicate (fn.ntmps - args.length) (.tup []),dfr:=[],rc:=none,st:=st }
def Kept (n:Nat) (st st':Sto):Prop:=∀ i,i < n→st'[i]? = st[i]?∨∃ o,st'[i]? = some o∧o.old n = true
def Out.val:Out→AV
 | .ret v=>v
 | .pan v=>v
def Out.map (g:AV→AV):Out→Out
 | .ret v => .ret (g v)
 | .pan v => .pan (g v)
open Classical in
noncomputable def gc (st:Sto) (r:Out × Sto):Out × Sto:=
 if (r.1.val.strip st.length).old st.length = true∧st.length ≤ r.2.length∧Kept st.length st r.2 then (r.1.map (AV.strip st.length),r.2.take st.length) else r
open Classical in
noncomputable def gcT (st:Sto) (r:Out × Sto):Out × Sto:=
 match r.1 with
 | .ret (.is row len (.tip id g es))=>
  if olds st.length (strips st.length row) = true∧st.length ≤ id∧r.2[id]? = some (.tip g)∧st.length ≤ r.2.length∧Kept st.length st r.2 then
   (.ret (.is (strips st.length row) len (.tip st.length 0 es)),r.2.take st.length ++ [.tip 0]) else gc st r
 | _=>gc st r
inductive Frz (st:Sto) (n:Nat):AV→AV→Prop
 | old (a:AV) (h:a.old n = true):Frz st n a a
 | ip (cs ds:List AV) (hl:ds.length = cs.length) (h:∀ (j:Nat) (a b:AV),cs[j]? = some a→ds[j]? = some b→Frz st n a b):Frz st n (.ip cs) (.ip ds)
 | is (row row':List AV) (len:Nat) (tok:Tok) (hl:row'.length = row.length) (h:∀ (j:Nat) (a b:AV),row[j]? = some a→row'[j]? = some b→Frz st n a b):Frz st n (.is row len tok) (.is row' len (tok.strip n))
 | ms (id g off len es:Nat) (cs row':List AV) (fz:Nat) (hn:n ≤ id) (ho:st[id]? = some (.cells g cs fz)) (hb:off + len * es ≤ cs.length) (hl:row'.length = len * es)
   (h:∀ (j:Nat) (a b:AV),cs[off + j]? = some a→row'[j]? = some b→Frz st n a b):Frz st n (.ms id g off len es) (.is row' len .no)
 | ifc (t:TypeId) (a b:AV) (h:Frz st n a b):Frz st n (.ifc t a) (.ifc t b)
 | agg (cs ds:List AV) (hl:ds.length = cs.length) (h:∀ (j:Nat) (a b:AV),cs[j]? = some a→ds[j]? = some b→Frz st n a b):Frz st n (.agg cs) (.agg ds)
 | tup (cs ds:List AV) (hl:ds.length = cs.length) (h:∀ (j:Nat) (a b:AV),cs[j]? = some a→ds[j]? = some b→Frz st n a b):Frz st n (.tup cs) (.tup ds)
open Classical in
noncomputable def gcF (st:Sto) (r:Out × Sto):Out × Sto:=
 match r.1 with
 | .ret v=>if h:(∃ b,Frz r.2 st.length v b)∧st.length ≤ r.2.length∧Kept st.length st r.2 then (.ret h.1.choose,r.2.take st.length) else gc st r
 | _=>gc st r
noncomputable def gcK (m:Nat) (st:Sto) (r:Out × Sto):Out × Sto:=match m with
 | 0=>gc st r
 | 1=>gcT st r
 | 2=>r
 | _=>gcF st r
noncomputable def run (A:P2):Nat→Y5
 | 0,_=>none
 | k + 1,c=>a2i A (fun f args st=>(entry A f args st).bind fun c'=>(run A k c').bind fun r=>some (gcK (A.mode f) st (r.out,r.st))) (run A k) c
noncomputable def a0I (A:P2) (k:Nat):Call:=fun f args st=>(entry A f args st).bind fun c'=>(run A k c').bind fun r=>some (gcK (A.mode f) st (r.out,r.st))
end Go.St
namespace Go.St
set_option linter.unusedVariables false
set_option linter.unusedSimpArgs false
def Call.le (C D:Call):Prop:=∀ f a s r,C f a s = some r→D f a s = some r
def Kle (K L:Y5):Prop:=∀ c r,K c = some r→L c = some r
structure Chain (Ck:Nat→Call) (C:Call) (Kk:Nat→Y5) (K:Y5):Prop where
 up:∀ k,Call.le (Ck k) (Ck (k + 1))
 sup:∀ f a s r,C f a s = some r→∃ k,Ck k f a s = some r
 kup:∀ k,Kle (Kk k) (Kk (k + 1))
 ksup:∀ c r,K c = some r→∃ k,Kk k c = some r
theorem Chain.ups {Ck:Nat→Call} {C:Call} {Kk:Nat→Y5} {K:Y5} (h:Chain Ck C Kk K) {i j:Nat} (hij:i ≤ j):Call.le (Ck i) (Ck j):=by
 induction hij with
 | refl=>exact fun _ _ _ _ h=>h
 | step _ ih=>exact fun f a s r hh=>h.up _ f a s r (ih f a s r hh)
theorem Chain.kups {Ck:Nat→Call} {C:Call} {Kk:Nat→Y5} {K:Y5} (h:Chain Ck C Kk K) {i j:Nat} (hij:i ≤ j):Kle (Kk i) (Kk j):=by
 induction hij with
 | refl=>exact fun _ _ h=>h
 | step _ ih=>exact fun c r hh=>h.kup _ c r (ih c r hh)
structure P1 {α:Type} (F:Call→Y5→Option α):Prop where
 mono:∀ {C D:Call} {K L:Y5},Call.le C D→Kle K L→∀ r,F C K = some r→F D L = some r
 fin:∀ {Ck:Nat→Call} {C:Call} {Kk:Nat→Y5} {K:Y5},Chain Ck C Kk K→∀ r,F C K = some r→∃ k,F (Ck k) (Kk k) = some r
theorem P1.const {α:Type} (x:Option α):P1 fun _ _=>x:=⟨fun _ _ _ h=>h,fun _ _ h=>⟨0,h⟩⟩
theorem P1.call (f:FuncId) (a:List AV) (s:Sto):P1 fun C _=>C f a s:=⟨fun h _ r hr=>h f a s r hr,fun h r hr=>h.sup f a s r hr⟩
theorem P1.kont (c:Cfg):P1 fun _ K=>K c:=⟨fun _ h r hr=>h c r hr,fun h r hr=>h.ksup c r hr⟩
theorem P1.bind {α β:Type} {F:Call→Y5→Option α} {G:α→Call→Y5→Option β} (hF:P1 F) (hG:∀ x,P1 (G x)):P1 fun C K=>(F C K).bind fun x=>G x C K:=by
 refine ⟨fun {C D K L} h hk r hr=>?_,fun {Ck C Kk K} h r hr=>?_⟩
 ·cases hx:F C K with
  | none=>simp [hx] at hr
  | some x=>simp only [hx,Option.bind_some] at hr; simp only [hF.mono h hk x hx,Option.bind_some]; exact (hG x).mono h hk r hr
 ·cases hx:F C K with
  | none=>simp [hx] at hr
  | some x=>
   simp only [hx,Option.bind_some] at hr
   obtain ⟨k1,h1⟩:=hF.fin h x hx
   obtain ⟨k2,h2⟩:=(hG x).fin h r hr
   refine ⟨max k1 k2,?_⟩
   simp only [hF.mono (h.ups (Nat.le_max_left k1 k2)) (h.kups (Nat.le_max_left k1 k2)) x h1,Option.bind_some]
   exact (hG x).mono (h.ups (Nat.le_max_right k1 k2)) (h.kups (Nat.le_max_right k1 k2)) r h2
theorem P1.ite {α:Type} {p:Prop} [Decidable p] {F G:Call→Y5→Option α} (hF:P1 F) (hG:P1 G):P1 fun C K=>if p then F C K else G C K:=by
 by_cases h:p <;> simp only [h,if_true,if_false] <;> assumption
theorem P1.bif {α:Type} {p:Bool} {F G:Call→Y5→Option α} (hF:P1 F) (hG:P1 G):P1 fun C K=>bif p then F C K else G C K:=by
 cases p <;> simp only [cond_true,cond_false] <;> assumption
theorem P1.on {α:Type} {o:Out} {F G:AV→Call→Y5→Option α} (hF:∀ v,P1 (F v)) (hG:∀ v,P1 (G v)):P1 fun C K=>o.on (fun v=>F v C K) (fun v=>G v C K):=by
 cases o with
 | ret v=>exact hF v
 | pan v=>exact hG v
section
variable {R:Type}
theorem cont_one {r:Option AV} {st:Sto} {k:Call→Y5→Out→Sto→Option R} (h:∀ o s,P1 fun C K=>k C K o s):P1 fun C K=>one r st (k C K):=
 P1.bind (P1.const r) fun v=>h _ _
theorem cont_two {r:Option (AV × Sto)} {k:Call→Y5→Out→Sto→Option R} (h:∀ o s,P1 fun C K=>k C K o s):P1 fun C K=>two r (k C K):=
 P1.bind (P1.const r) fun v=>h _ _
theorem cont_unit {r:Option Sto} {k:Call→Y5→Out→Sto→Option R} (h:∀ o s,P1 fun C K=>k C K o s):P1 fun C K=>unit r (k C K):=
 P1.bind (P1.const r) fun v=>h _ _
theorem a3p (ops:Array Oper) (o:Oper) (env:List AV) {y n:Call→Y5→List AV→Option R} (hy:∀ e,P1 fun C K=>y C K e) (hn:∀ e,P1 fun C K=>n C K e) :
  P1 fun C K=>a0x ops o env (y C K) (n C K):=by
 unfold a0x
 split
 ·exact hy _
 ·split
  ·exact hn _
  ·split
   ·refine P1.bind (P1.const _) fun g=>?_
    cases g with
    | none=>exact hn _
    | some b=>exact P1.bif (P1.bif (hy _) (hn _)) (P1.bif (hn _) (hy _))
   ·exact hn _
theorem cont_binI {op:BinOp} {ik:IntKind} {x y:Int} {c:Call→Y5→AV→Option R} (h:∀ v,P1 fun C K=>c C K v):P1 fun C K=>binI op ik x y (c C K):=by
 cases op <;> simp only [binI] <;> first | exact h _ | exact P1.ite (P1.const _) (h _)
theorem cont_binS {op:BinOp} {x y:ByteArray} {c:Call→Y5→AV→Option R} (h:∀ v,P1 fun C K=>c C K v):P1 fun C K=>binS op x y (c C K):=by
 cases op <;> simp only [binS] <;> first | exact h _ | exact P1.ite (h _) (P1.const _) | exact P1.const _
theorem cont_binK {td:TD} {flat:List FK} {lit:Bool} {op:BinOp} {x y:AV} {c:Call→Y5→AV→Option R} (h:∀ v,P1 fun C K=>c C K v):P1 fun C K=>binK td flat lit op x y (c C K):=by
 unfold binK
 split
 ·refine P1.bind (P1.const _) fun a=>?_
  split <;> exact P1.bind (P1.const _) fun b=>cont_binI h
 ·exact P1.bind (P1.const _) fun a=>P1.bind (P1.const _) fun b=>cont_binS h
 ·split
  ·exact P1.bind (P1.const _) fun b=>h _
  ·exact P1.bind (P1.const _) fun b=>h _
  ·exact P1.const _
theorem cont_unK {td:TD} {op:UnOp} {x:AV} {c:Call→Y5→AV→Option R} (h:∀ v,P1 fun C K=>c C K v):P1 fun C K=>unK td op x (c C K):=by
 unfold unK
 split
 ·split
  ·exact P1.bind (P1.const _) fun b=>h _
  ·exact P1.const _
 ·split
  ·exact P1.bind (P1.const _) fun b=>h _
  ·exact P1.const _
 ·exact P1.bind (P1.const _) fun b=>h _
 ·exact P1.const _
theorem cont_convK {A:P2} {wr:Bool} {src dst:TypeId} {x:AV} {st:Sto} {k:Call→Y5→Out→Sto→Option R} (h:∀ o s,P1 fun C K=>k C K o s):P1 fun C K=>convK A wr src dst x st (k C K):=by
 unfold convK
 refine P1.bind (P1.const _) fun ts=>P1.bind (P1.const _) fun td=>?_
 split
 ·exact P1.bind (P1.const _) fun n=>h _ _
 ·split
  ·refine P1.bind (P1.const _) fun te=>?_
   split
   ·exact P1.bind (P1.const _) fun n=>h _ _
   ·exact P1.const _
  ·exact P1.bind (P1.const _) fun n=>h _ _
  ·exact P1.bind (P1.const _) fun n=>h _ _
 ·split
  ·refine P1.bind (P1.const _) fun te=>?_
   split
   ·exact P1.bind (P1.const _) fun n=>cont_two h
   ·exact P1.const _
  ·refine P1.ite (P1.bind (P1.const _) fun te=>?_) (P1.const _)
   split
   ·exact P1.bind (P1.const _) fun n=>h _ _
   ·exact P1.const _
  ·exact P1.const _
 ·exact P1.const _
theorem cont_sliceK {A:P2} {t:TypeId} {x:AV} {lo hi mx:Option AV} {st:Sto} {c:Call→Y5→AV→Option R} (h:∀ v,P1 fun C K=>c C K v):P1 fun C K=>a3g A t x lo hi mx st (c C K):=by
 unfold a3g
 split
 ·exact P1.const _
 ·refine P1.bind (P1.const _) fun td=>?_
  split
  ·exact P1.bind (P1.const _) fun _=>P1.bind (P1.const _) fun _=>P1.bind (P1.const _) fun _=>h _
  ·exact P1.bind (P1.const _) fun _=>P1.bind (P1.const _) fun _=>h _
  ·exact P1.bind (P1.const _) fun _=>P1.bind (P1.const _) fun _=>h _
  ·exact P1.const _
theorem cont_indexK {A:P2} {t:TypeId} {x i:AV} {c:Call→Y5→AV→Option R} (h:∀ v,P1 fun C K=>c C K v):P1 fun C K=>a3h A t x i (c C K):=by
 unfold a3h
 refine P1.bind (P1.const _) fun td=>?_
 split
 ·exact P1.bind (P1.const _) fun _=>P1.bind (P1.const _) fun _=>P1.bind (P1.const _) fun _=>h _
 ·exact P1.bind (P1.const _) fun _=>P1.bind (P1.const _) fun _=>h _
 ·exact P1.const _
theorem cont_lenK {A:P2} {t:TypeId} {x:AV} {st:Sto} {c:Call→Y5→AV→Option R} (h:∀ v,P1 fun C K=>c C K v):P1 fun C K=>lenK A t x st (c C K):=by
 unfold lenK
 refine P1.bind (P1.const _) fun td=>?_
 split
 ·exact P1.bind (P1.const _) fun _=>h _
 ·exact h _
 ·exact P1.bind (P1.const _) fun _=>h _
 ·exact P1.bind (P1.const _) fun _=>h _
 ·exact P1.const _
theorem cont_pickK {x a b:AV} {c:Call→Y5→AV→Option R} (h:∀ v,P1 fun C K=>c C K v):P1 fun C K=>pickK x a b (c C K):=by
 unfold pickK
 exact P1.bind (P1.const _) fun t=>P1.bif (P1.bind (P1.const _) fun _=>h _) (P1.bind (P1.const _) fun _=>h _)
theorem cont_builtinK (A:P2) (wr:Bool) (b:Builtin) (ts:List TypeId) (args:List AV) (st:Sto) {k:Call→Y5→Out→Sto→Option R} (h:∀ o s,P1 fun C K=>k C K o s) :
  P1 fun C K=>a08 A wr b ts args st (k C K):=by
 unfold a08
 split
 ·exact cont_lenK fun v=>h _ _
 ·exact cont_two h
 ·exact P1.bind (P1.const _) fun _=>P1.bind (P1.const _) fun _=>h _ _
 ·exact P1.bind (P1.const _) fun _=>P1.bind (P1.const _) fun _=>h _ _
 ·exact P1.const _
theorem cont_callA (A:P2) (f:FuncId) (args:List AV) (st:Sto):P1 fun C _=>callA A C f args st:=by
 unfold callA
 cases P0 f A.prims with
 | none=>exact P1.bif (P1.const _) (P1.call _ _ _)
 | some p=>exact P1.const _
theorem cont_invokeA (A:P2) (f:AV) (args:List AV) (st:Sto):P1 fun C _=>V4 A C f args st:=by
 unfold V4
 split
 ·exact cont_callA _ _ _ _
 ·exact P1.call _ _ _
 ·exact P1.const _
theorem cont_rangeA (A:P2) (f:AV) (args:List AV) (st:Sto):P1 fun C _=>rangeA A C f args st:=by
 unfold rangeA
 split
 ·rename_i f first cap
  cases P0 f A.prims with
  | none=>exact P1.bif (P1.const _) (P1.call _ _ _)
  | some p=>exact P1.const _
 ·exact P1.const _
theorem a02 (A:P2) (wr:Bool) (ev:Operand→AV) (o:Oper) (st:Sto) {k:Call→Y5→Out→Sto→Option R} (h:∀ o s,P1 fun C K=>k C K o s) :
  P1 fun C K=>a07 A C wr ev o st (k C K):=by
 unfold a07
 cases o.op with
 | call c=>
  simp only
  cases hc:c.callee with
  | value f=>simp only; exact P1.bind (cont_invokeA _ _ _ _) fun x=>h _ _
  | invoke r m=>exact P1.const _
  | builtin b=>simp only; exact cont_builtinK _ _ _ _ _ _ h
 | move x=>exact h _ _
 | assign x=>exact h _ _
 | alloc t=>exact P1.bind (P1.const _) fun td=>P1.ite (h _ _) (h _ _)
 | load t a=>exact P1.bind (P1.const _) fun td=>cont_one h
 | store t a x=>exact P1.bind (P1.const _) fun td=>cont_unit h
 | box t x=>exact P1.ite (h _ _) (P1.const _)
 | range t x=>
  refine P1.bind (P1.const _) fun td=>?_
  split
  ·exact P1.bind (P1.const _) fun s=>h _ _
  ·exact P1.const _
 | makeInterface t x=>
  refine P1.bind (P1.const _) fun td=>?_
  split
  ·exact P1.const _
  ·exact h _ _
 | makeFunc f a b=>
  simp only
  split
  ·exact P1.const _
  ·exact h _ _
 | makeMap t r=>
  cases r with
  | none=>exact h _ _
  | some x=>exact P1.const _
 | pick c a b=>exact cont_pickK fun v=>h _ _
 | binOp op t x y z=>exact P1.bind (P1.const _) fun td=>cont_binK fun v=>h _ _
 | unOp op t x=>exact P1.bind (P1.const _) fun td=>cont_unK fun v=>h _ _
 | convert s d x=>exact cont_convK h
 | slice t x lo hi mx=>exact cont_sliceK fun v=>h _ _
 | index t x i=>exact cont_indexK fun v=>h _ _
 | panic x=>
  simp only
  split
  ·exact h _ _
  ·exact P1.const _
 | _=>first | exact cont_one h | exact cont_two h | exact cont_unit h | exact P1.const _
theorem cont_runOps (A:P2) (nt:a0o) (rid:Nat) (ops:Array Oper) {kn:Call→Y5→List AV→Sto→Option R} {kp:Call→Y5→AV→Sto→Option R}
  (hn:∀ e s,P1 fun C K=>kn C K e s) (hp:∀ v s,P1 fun C K=>kp C K v s) :
  ∀ (l:List Oper) (i:Nat) (env:List AV) (st:Sto),P1 fun C K=>a3m A C nt rid ops (kn C K) (kp C K) l i env st:=by
 intro l
 induction l with
 | nil=>intro i env st; exact hn _ _
 | cons o r ih=>
  intro i env st
  simp only [a3m]
  exact a3p _ _ _ (fun e=>a02 _ _ _ _ _ fun o s=>P1.on (fun v=>ih _ _ _) (fun v=>hp _ _)) (fun e=>ih _ _ _)
open Classical in
theorem cont_again (A:P2) (nt:a0o) (rid:Nat) (st:Sto) {k:Call→Y5→Option R} (h:P1 k):∀ l:List Rd,P1 fun C K=>again A C nt rid st (k C K) l:=by
 intro l
 induction l with
 | nil=>exact h
 | cons r l ih=>simp only [again]; exact a02 _ _ _ _ _ fun o s=>P1.ite ih (P1.const _)
open Classical in
theorem a4G (A:P2) (w:Bool) (env:List AV) (o:Oper) (out:Out) {k:Call→Y5→Option R} (h:P1 k):∀ l:List Sto,P1 fun C K=>alike A C w env o out (k C K) l:=by
 intro l
 induction l with
 | nil=>exact h
 | cons r l ih=>simp only [alike]; exact a02 _ _ _ _ _ fun o s=>P1.ite ih (P1.const _)
open Classical in
theorem cont_drawOp (A:P2) (nt:a0o) (rid:Nat) (ops:Array Oper) (b:Array Nat) (o:Oper) (i:Nat) (d:DS) {k:Call→Y5→DS→Option R} (h:∀ d,P1 fun C K=>k C K d) :
  P1 fun C K=>a3S A C nt rid ops b o i d (k C K):=by
 unfold a3S
 refine a3p _ _ _ (fun e=>?_) (fun e=>h _)
 cases kindOf nt rid i o with
 | pure=>exact a02 _ _ _ _ _ fun o s=>P1.on (fun v=>h _) (fun v=>P1.const _)
 | look=>exact a02 _ _ _ _ _ fun o s=>P1.on (fun v=>a4G _ _ _ _ _ (h _) _) (fun v=>P1.const _)
 | read=>exact a02 _ _ _ _ _ fun o s=>P1.on (fun v=>P1.ite (a4G _ _ _ _ _ (h _) _) (P1.const _)) (fun v=>P1.const _)
 | act=>exact P1.bif (a02 _ _ _ _ _ fun o s=>P1.on (fun v=>cont_again _ _ _ _ (h _) _) (fun v=>P1.const _)) (P1.const _)
theorem cont_drawOps (A:P2) (nt:a0o) (rid:Nat) (ops:Array Oper) (b:Array Nat) {k:Call→Y5→DS→Option R} (h:∀ d,P1 fun C K=>k C K d) :
  ∀ (l:List Oper) (i:Nat) (d:DS),P1 fun C K=>a0F A C nt rid ops b (k C K) l i d:=by
 intro l
 induction l with
 | nil=>intro i d; exact h _
 | cons o r ih=>intro i d; simp only [a0F]; exact cont_drawOp _ _ _ _ _ _ _ _ fun d'=>ih _ _
theorem cont_runDraw (A:P2) (nt:a0o) (rid:Nat) (ops:Array Oper) {kn:Call→Y5→List AV→Sto→Option R} {kp:Call→Y5→AV→Sto→Option R}
  (hn:∀ e s,P1 fun C K=>kn C K e s) (hp:∀ v s,P1 fun C K=>kp C K v s) (env:List AV) (st:Sto):P1 fun C K=>a1p A C nt rid ops (kn C K) (kp C K) env st:=by
 unfold a1p
 exact P1.bif (cont_drawOps _ _ _ _ _ (fun d=>hn _ _) _ _ _) (P1.const _)
end
theorem a4p {R:Type} {id:Nat} {yes:Call→Y5→List AItem→Option R} {no:Call→Y5→Option R} (hy:∀ t,P1 fun C K=>yes C K t) (hn:P1 no):∀ t:List AItem,P1 fun C K=>exitK id (yes C K) (no C K) t:=by
 intro t
 induction t with
 | nil=>exact hn
 | cons x t ih=>
  cases x with
  | blk i=>simp only [exitK]; exact P1.bif (hy t) ih
  | _=>exact ih
theorem cont_jOn {R:Type} (j:Option Code) {n r:Call→Y5→Option R} {x:Call→Y5→Nat→Option R} (hn:P1 n) (hr:P1 r) (hx:∀ id,P1 fun C K=>x C K id):P1 fun C K=>jOn j (n C K) (r C K) (x C K):=by
 unfold jOn
 split
 ·exact hn
 ·exact hr
 ·exact hx _
 ·exact P1.const _
theorem a0M (A:P2) (c:Cfg):P1 fun C K=>a2i A C K c:=by
 unfold a2i
 split
 ·split
  ·exact P1.const _
  ·exact P1.const _
 ·exact P1.bind (P1.const _) fun _=>P1.bind (P1.const _) fun _=>P1.kont _
 ·exact P1.kont _
 ·exact P1.kont _
 ·exact P1.kont _
 ·rename_i p code t e
  cases code with
  | skip=>exact P1.kont _
  | label l=>exact P1.kont _
  | ret=>exact P1.const _
  | seq a b=>exact P1.kont _
  | cond x a b=>
   exact P1.bind (P1.const _) fun q=>P1.bif (P1.kont _) (P1.kont _)
  | block id b=>exact P1.kont _
  | loop b=>exact P1.kont _
  | scope b=>exact P1.kont _
  | exit id=>exact a4p (fun _=>P1.kont _) (P1.const _) _
  | goto l=>exact P1.bind (P1.const _) fun _=>P1.kont _
  | region rid ops draw=>exact P1.bif (P1.bif (cont_runDraw _ _ _ _ (kp:=fun _ _=>panA c) (fun _ _=>P1.kont _) (fun _ _=>P1.const _) _ _) (P1.const _)) (cont_runOps _ _ _ _ (kp:=fun _ _=>panA c) (fun _ _=>P1.kont _) (fun _ _=>P1.const _) _ _ _ _)
  | rangeFunc f ps a b=>
   cases c.rd with
   | some _=>exact P1.const _
   | none=>exact P1.bind (cont_rangeA _ _ _ _) fun x=>P1.on (fun v=>P1.bind (P1.const _) fun y=>cont_jOn _ (P1.kont _) (P1.const _) fun id=>a4p (fun _=>P1.kont _) (P1.const _) _) (fun v=>P1.const _)
  | refuse w=>exact P1.const _
theorem callK_le {A:P2} {i j:Nat} (h:Kle (run A i) (run A j)):Call.le (a0I A i) (a0I A j):=by
 intro f a s r hr
 unfold a0I at *
 cases he:entry A f a s with
 | none=>simp [he] at hr
 | some c=>
  simp only [he,Option.bind_some] at hr ⊢
  cases hx:run A i c with
  | none=>simp [hx] at hr
  | some x=>rw [h c x hx]; simpa [hx] using hr
theorem run_up (A:P2):∀ k,Kle (run A k) (run A (k + 1)):=by
 intro k
 induction k with
 | zero=>intro c r h; simp [run] at h
 | succ k ih=>intro c r h; exact (a0M A c).mono (callK_le ih) ih r h
open Classical in
noncomputable def Run (A:P2):Y5:=fun c=>if h:∃ r,∃ k,run A k c = some r then some (Classical.choose h) else none
noncomputable def O1 (A:P2):Call:=fun f args st=>(entry A f args st).bind fun c=>(Run A c).bind fun r=>some (gcK (A.mode f) st (r.out,r.st))
theorem run_ups (A:P2) {i j:Nat} (h:i ≤ j):Kle (run A i) (run A j):=by
 induction h with
 | refl=>exact fun _ _ h=>h
 | step _ ih=>exact fun c r hh=>run_up A _ c r (ih c r hh)
theorem run_det (A:P2) {i j:Nat} {c:Cfg} {r s:Res} (h:run A i c = some r) (h':run A j c = some s):r = s:=by
 have a:=run_ups A (Nat.le_max_left i j) c r h
 have b:=run_ups A (Nat.le_max_right i j) c s h'
 rw [a] at b
 exact Option.some.inj b
theorem a2f (A:P2) (c:Cfg) (r:Res):Run A c = some r ↔ ∃ k,run A k c = some r:=by
 unfold Run
 constructor
 ·intro h
  split at h
  ·rename_i hx
   obtain ⟨k,hk⟩:=Classical.choose_spec hx
   exact ⟨k,by rw [hk]; exact h⟩
  ·simp at h
 ·rintro ⟨k,hk⟩
  have hx:∃ r,∃ k,run A k c = some r:=⟨r,k,hk⟩
  rw [dif_pos hx]
  obtain ⟨j,hj⟩:=Classical.choose_spec hx
  rw [run_det A hj hk]
theorem a3Q (A:P2) (k:Nat):Call.le (a0I A k) (O1 A):=by
 intro f a s r h
 unfold a0I at h; unfold O1
 cases he:entry A f a s with
 | none=>simp [he] at h
 | some c=>
  simp only [he,Option.bind_some] at h ⊢
  cases hx:run A k c with
  | none=>simp [hx] at h
  | some x=>rw [(a2f A c x).2 ⟨k,hx⟩]; simpa [hx] using h
theorem a0s (A:P2) {f:FuncId} {a:List AV} {s:Sto} {r:Out × Sto} (h:O1 A f a s = some r):∃ k,a0I A k f a s = some r:=by
 unfold O1 at h
 cases he:entry A f a s with
 | none=>simp [he] at h
 | some c=>
  simp only [he,Option.bind_some] at h
  cases hx:Run A c with
  | none=>simp [hx] at h
  | some x=>
   obtain ⟨k,hk⟩:=(a2f A c x).1 hx
   exact ⟨k,by unfold a0I; simp only [he,Option.bind_some,hk]; simpa [hx] using h⟩
theorem chain_run (A:P2):Chain (a0I A) (O1 A) (run A) (Run A):=
 ⟨fun k=>callK_le (run_up A k),fun _ _ _ _ h=>a0s A h,run_up A,fun c r h=>(a2f A c r).1 h⟩
theorem Run_eq (A:P2) (c:Cfg):Run A c = a2i A (O1 A) (Run A) c:=by
 have key:∀ r,Run A c = some r ↔ a2i A (O1 A) (Run A) c = some r:=by
  intro r
  constructor
  ·intro h
   obtain ⟨k,hk⟩:=(a2f A c r).1 h
   cases k with
   | zero=>simp [run] at hk
   | succ k=>exact (a0M A c).mono (C:=a0I A k) (a3Q A k) (fun c r h=>(a2f A c r).2 ⟨k,h⟩) r hk
  ·intro h
   obtain ⟨k,hk⟩:=(a0M A c).fin (chain_run A) r h
   exact (a2f A c r).2 ⟨k + 1,hk⟩
 cases h:Run A c with
 | none=>
  cases h':a2i A (O1 A) (Run A) c with
  | none=>rfl
  | some r=>rw [(key r).2 h'] at h; cases h
 | some r=>exact ((key r).1 h).symm
theorem keep_keep (l:List Nat):∀ (i:Nat) (env:List AV),keep l i (keep l i env) = keep l i env:=by
 intro i env
 induction env generalizing i with
 | nil=>rfl
 | cons v r ih=>
  simp only [keep,ih]
  cases l.contains i <;> rfl
theorem keepAt_keepAt (nt:a0o) (p:Path) (env:List AV):nt.keepAt p (nt.keepAt p env) = nt.keepAt p env:=by
 unfold a0o.keepAt
 cases assocP p nt.keeps with
 | none=>rfl
 | some l=>exact keep_keep l 0 env
def canon (A:P2) (c:Cfg):Cfg:=
 match c.todo with
 | .code p _ :: _=>{ c with env:=(A.note c.f).keepAt p c.env }
 | _=>c
theorem Run_canon (A:P2) (c:Cfg):Run A (canon A c) = Run A c:=by
 rw [Run_eq A c,Run_eq A (canon A c)]
 obtain ⟨f,todo,env,dfr,rc,st⟩:=c
 unfold canon
 split
 ·rename_i p code t e
  simp only at e
  subst e
  unfold a2i
  simp only [keepAt_keepAt]
  rfl
 ·rfl
def stopsAt (A:P2) (c:Cfg):Bool:=
 match c.todo with
 | .code p _ :: _=>(A.note c.f).stops.contains p
 | _=>false
noncomputable def unroll (A:P2):Nat→Bool→Y5
 | 0,_,c=>Run A c
 | n + 1,first,c=>bif !first && stopsAt A c then Run A (canon A c) else a2i A (O1 A) (unroll A n false) c
theorem unroll_eq (A:P2):∀ n b,unroll A n b = Run A:=by
 intro n
 induction n with
 | zero=>intro b; funext c; rfl
 | succ n ih=>
  intro b
  funext c
  unfold unroll
  cases !b && stopsAt A c with
  | true=>exact Run_canon A c
  | false=>simp only [cond_false]; rw [ih false]; exact (Run_eq A c).symm
theorem Run_unroll (A:P2) (n:Nat) (c:Cfg):Run A c = unroll A n true c:=by rw [unroll_eq]
def subC:Code→List Nat→Code
 | c,[]=>c
 | .seq a b,i :: r=>if i = 0 then subC a r else subC b r
 | .cond _ a b,i :: r=>if i = 0 then subC a r else subC b r
 | .block _ a,_ :: r=>subC a r
 | .loop a,_ :: r=>subC a r
 | .rangeFunc _ _ a b,i :: r=>if i = 0 then subC b r else subC a r
 | .scope a,_ :: r=>subC a r
 | c,_=>c
def codeAt (A:P2) (f:FuncId) (p:Path):Code:=match P0 f A.fns with
 | some fn=>match fn.body with
  | some c=>subC c p.reverse
  | none => .skip
 | none => .skip
def cI (A:P2) (f:FuncId) (p:Path):AItem := .code p (codeAt A f p)
def lI (A:P2) (f:FuncId) (p:Path):AItem := .lp p (codeAt A f (0 :: p))
end Go.St
namespace Go.St
set_option linter.unusedVariables false
set_option linter.unusedSimpArgs false
structure Gh where
 ρ:Nat→Nat→Option (Nat × Nat)
 H:Nat→Option (List Value)
 Z:Nat→Option Nat
structure Gh.le (G G':Gh):Prop where
 ρ:∀ i g x,G.ρ i g = some x→G'.ρ i g = some x
 H:∀ b l,G.H b = some l→∃ m,G'.H b = some (l ++ m)
 Z:∀ b n,G.Z b = some n→G'.Z b = some n
theorem Gh.le.refl (G:Gh):G.le G:=⟨fun _ _ _ h=>h,fun _ l h=>⟨[],by simpa using h⟩,fun _ _ h=>h⟩
theorem Gh.le.trans {A B C:Gh} (h:A.le B) (k:B.le C):A.le C:=by
 refine ⟨fun i g x hx=>k.ρ _ _ _ (h.ρ _ _ _ hx),fun b l hl=>?_,fun b n hn=>k.Z _ _ (h.Z _ _ hn)⟩
 obtain ⟨m,hm⟩:=h.H b l hl
 obtain ⟨m',hm'⟩:=k.H b _ hm
 exact ⟨m ++ m',by rw [hm',List.append_assoc]⟩
def TokR (G:Gh) (tok:Tok) (row len b o cap:Nat):Prop:=
 match tok with
 | .no=>True
 | .full=>cap = len
 | .cut n=>len ≤ n∧n ≤ cap
 | .tip i g es=>(∃ h x,G.ρ i h = some x)∧(cap = len∨(G.ρ i g = some (b,o + row)∧row = len * es∧∃ n,G.Z b = some n∧o + cap * es ≤ n))
inductive VR (G:Gh):AV→Value→Prop
 | any (v:Value):VR G .any v
 | one (v:Value) (h:v.oneCell' = true):VR G .one v
 | bool (b:Bool):VR G (.bool b) (.bool b)
 | int (k:IntKind) (n:Int):VR G (.int k n) (.int k n)
 | str (s:ByteArray):VR G (.str s) (.string s)
 | nilp:VR G .nilp (.pointer none)
 | ip (cs:List AV) (b o:Nat) (l:List Value) (hH:G.H b = some l) (hl:o + cs.length ≤ l.length)
   (h:∀ (j:Nat) (a:AV) (v:Value),cs[j]? = some a→l[o + j]? = some v→VR G a v):VR G (.ip cs) (.pointer (some ⟨b,o,none⟩))
 | mp (id g off b o:Nat) (h:G.ρ id g = some (b,o)):VR G (.mp id g off) (.pointer (some ⟨b,o + off,none⟩))
 | nils:VR G .nils (.slice none 0 0)
 | is (row:List AV) (len:Nat) (tok:Tok) (b o cap:Nat) (l:List Value) (hH:G.H b = some l) (hl:o + row.length ≤ l.length) (hc:len ≤ cap) (ht:TokR G tok row.length len b o cap)
   (h:∀ (j:Nat) (a:AV) (v:Value),row[j]? = some a→l[o + j]? = some v→VR G a v) (h1:∀ (j:Nat) (v:Value),j < row.length→l[o + j]? = some v→v.oneCell' = true):VR G (.is row len tok) (.slice (some ⟨b,o,none⟩) len cap)
 | is0 (a:Addr) (cap:Nat):VR G (.is [] 0 .no) (.slice (some a) 0 cap)
 | ms (id g off len es b o cap:Nat) (a:Addr) (h:G.ρ id g = some (b,o)) (hc:len ≤ cap)
   (ha:cap = 0∨(a = ⟨b,o + off,none⟩∧∃ n,G.Z b = some n∧o + off + cap * es ≤ n)):VR G (.ms id g off len es) (.slice (some a) len cap)
 | nilm:VR G .nilm (.map none)
 | mr (id b:Nat) (h:G.ρ id 0 = some (b,0)):VR G (.mr id) (.map (some b))
 | fn (f:Fn) (as cs:List AV) (xs ys:Array Value) (hf:∀ l,f ≠ .yield l) (hx:as.length = xs.size) (hy:cs.length = ys.size)
   (h:∀ (j:Nat) (a:AV) (v:Value),as[j]? = some a→xs[j]? = some v→VR G a v) (k:∀ (j:Nat) (a:AV) (v:Value),cs[j]? = some a→ys[j]? = some v→VR G a v):VR G (.fn f as cs) (.func f xs ys)
 | nilfn:VR G .nilfn .nilFunc
 | ifc (t:TypeId) (a:AV) (v:Value) (h:VR G a v):VR G (.ifc t a) (.iface t v)
 | nili:VR G .nili .nilIface
 | agg (as:List AV) (xs:Array Value) (hx:as.length = xs.size) (h:∀ (j:Nat) (a:AV) (v:Value),as[j]? = some a→xs[j]? = some v→VR G a v):VR G (.agg as) (.agg xs)
 | tup (as:List AV) (xs:Array Value) (hx:as.length = xs.size) (h:∀ (j:Nat) (a:AV) (v:Value),as[j]? = some a→xs[j]? = some v→VR G a v):VR G (.tup as) (.tuple xs)
 | it (id b:Nat) (h:G.ρ id 0 = some (b,0)):VR G (.it id) (.pointer (some ⟨b,0,none⟩))
 | yl (id b:Nat) (h:G.ρ id 0 = some (b,0)):VR G (.yl id) (.func (.yield b) #[] #[])
structure VRs (G:Gh) (as:List AV) (vs:List Value):Prop where
 len:as.length = vs.length
 at_:∀ (j:Nat) (a:AV) (v:Value),as[j]? = some a→vs[j]? = some v→VR G a v
theorem TokR.mono {G G':Gh} (h:G.le G') {tok:Tok} {row len b o cap:Nat} (k:TokR G tok row len b o cap):TokR G' tok row len b o cap:=by
 cases tok with
 | no=>trivial
 | full=>exact k
 | cut n=>exact k
 | tip i g es=>
  obtain ⟨⟨m,x,hx⟩,k⟩:=k
  refine ⟨⟨m,x,h.ρ _ _ _ hx⟩,?_⟩
  rcases k with k | ⟨k1,k2,n,k3,k4⟩
  ·exact .inl k
  ·exact .inr ⟨h.ρ _ _ _ k1,k2,n,h.Z _ _ k3,k4⟩
theorem getElem?_app {α:Type} {l m:List α} {j:Nat} {v:α} (hj:j < l.length) (h:(l ++ m)[j]? = some v):l[j]? = some v:=by
 rwa [List.getElem?_append_left hj] at h
theorem VR.mono {G G':Gh} (h:G.le G') {a:AV} {v:Value} (k:VR G a v):VR G' a v:=by
 induction k with
 | any v=>exact .any v
 | one v h=>exact .one v h
 | bool b=>exact .bool b
 | int k n=>exact .int k n
 | str s=>exact .str s
 | nilp=>exact .nilp
 | ip cs b o l hH hl hh ih=>
  obtain ⟨m,hm⟩:=h.H b l hH
  refine .ip cs b o _ hm (by simp; omega) fun j a v ha hv=>?_
  have hj:j < cs.length:=(List.getElem?_eq_some_iff.1 ha).1
  exact ih j a v ha (getElem?_app (by omega) hv)
 | mp id g off b o hh=>exact .mp id g off b o (h.ρ _ _ _ hh)
 | nils=>exact .nils
 | is row len tok b o cap l hH hl hc ht hh h1 ih=>
  obtain ⟨m,hm⟩:=h.H b l hH
  refine .is row len tok b o cap _ hm (by simp; omega) hc (ht.mono h) (fun j a v ha hv=>?_) fun j v hj hv=>h1 j v hj (getElem?_app (by omega) hv)
  have hj:j < row.length:=(List.getElem?_eq_some_iff.1 ha).1
  exact ih j a v ha (getElem?_app (by omega) hv)
 | is0 a cap=>exact .is0 a cap
 | ms id g off len es b o cap a hh hc ha=>
  refine .ms id g off len es b o cap a (h.ρ _ _ _ hh) hc ?_
  rcases ha with ha | ⟨ha,n,hn,hl⟩
  ·exact .inl ha
  ·exact .inr ⟨ha,n,h.Z _ _ hn,hl⟩
 | nilm=>exact .nilm
 | mr id b hh=>exact .mr id b (h.ρ _ _ _ hh)
 | fn f as cs xs ys hf hx hy hh hk ih ik=>exact .fn f as cs xs ys hf hx hy ih ik
 | nilfn=>exact .nilfn
 | ifc t a v hh ih=>exact .ifc t a v ih
 | nili=>exact .nili
 | agg as xs hx hh ih=>exact .agg as xs hx ih
 | tup as xs hx hh ih=>exact .tup as xs hx ih
 | it id b hh=>exact .it id b (h.ρ _ _ _ hh)
 | yl id b hh=>exact .yl id b (h.ρ _ _ _ hh)
theorem VRs.mono {G G':Gh} (h:G.le G') {as:List AV} {vs:List Value} (k:VRs G as vs):VRs G' as vs:=⟨k.len,fun j a v ha hv=>(k.at_ j a v ha hv).mono h⟩
theorem VRs.nil (G:Gh):VRs G [] []:=⟨rfl,fun j a v ha _=>by simp at ha⟩
theorem VRs.cons {G:Gh} {a:AV} {v:Value} {as:List AV} {vs:List Value} (h:VR G a v) (k:VRs G as vs):VRs G (a :: as) (v :: vs):=by
 refine ⟨by simp [k.len],fun j a' v' ha hv=>?_⟩
 cases j with
 | zero=>simp at ha hv; subst ha; subst hv; exact h
 | succ j=>exact k.at_ j a' v' (by simpa using ha) (by simpa using hv)
theorem VRs.append {G:Gh} {as bs:List AV} {vs ws:List Value} (h:VRs G as vs) (k:VRs G bs ws):VRs G (as ++ bs) (vs ++ ws):=by
 refine ⟨by simp [h.len,k.len],fun j a v ha hv=>?_⟩
 by_cases hj:j < as.length
 ·rw [List.getElem?_append_left hj] at ha
  rw [List.getElem?_append_left (by rw [←h.len]; exact hj)] at hv
  exact h.at_ j a v ha hv
 ·rw [List.getElem?_append_right (by omega)] at ha
  rw [List.getElem?_append_right (by rw [←h.len]; omega),←h.len] at hv
  exact k.at_ _ a v ha hv
theorem VRs.take {G:Gh} {as:List AV} {vs:List Value} (h:VRs G as vs) (n:Nat):VRs G (as.take n) (vs.take n):=by
 refine ⟨by simp [h.len],fun j a v ha hv=>?_⟩
 rw [List.getElem?_take] at ha hv
 by_cases hj:j < n
 ·rw [if_pos hj] at ha hv; exact h.at_ j a v ha hv
 ·rw [if_neg hj] at ha; cases ha
theorem VRs.drop {G:Gh} {as:List AV} {vs:List Value} (h:VRs G as vs) (n:Nat):VRs G (as.drop n) (vs.drop n):=by
 refine ⟨by simp [h.len],fun j a v ha hv=>?_⟩
 rw [List.getElem?_drop] at ha hv
 exact h.at_ _ a v ha hv
theorem VRs.splice {G:Gh} {as bs:List AV} {vs ws:List Value} (h:VRs G as vs) (off:Nat) (k:VRs G bs ws):VRs G (Go.St.splice as off bs) (Go.St.splice vs off ws):=by
 unfold Go.St.splice
 rw [k.len]
 exact (h.take off).append (k.append (h.drop _))
theorem VRs.head {G:Gh} {a:AV} {as:List AV} {vs:List Value} (h:VRs G (a :: as) vs):∃ v ws,vs = v :: ws∧VR G a v∧VRs G as ws:=by
 cases vs with
 | nil=>have:=h.len; simp at this
 | cons v ws=>
  refine ⟨v,ws,rfl,h.at_ 0 a v rfl rfl,⟨by have:=h.len; simpa using this,fun j a' v' ha hv=>h.at_ (j + 1) a' v' (by simpa using ha) (by simpa using hv)⟩⟩
theorem VRs.get {G:Gh} {as:List AV} {vs:List Value} (h:VRs G as vs) {j:Nat} {a:AV} (ha:as[j]? = some a):∃ v,vs[j]? = some v∧VR G a v:=by
 have hj:j < as.length:=(List.getElem?_eq_some_iff.1 ha).1
 have hv:j < vs.length:=by rw [←h.len]; exact hj
 exact ⟨vs[j],List.getElem?_eq_getElem hv,h.at_ j a _ ha (List.getElem?_eq_getElem hv)⟩
theorem VRs.of_row {G:Gh} {cs:List AV} {l:List Value} {o:Nat} (hl:o + cs.length ≤ l.length) (h:∀ (j:Nat) (a:AV) (v:Value),cs[j]? = some a→l[o + j]? = some v→VR G a v) :
  VRs G cs ((l.drop o).take cs.length):=by
 refine ⟨by simp; omega,fun j a v ha hv=>?_⟩
 have hj:j < cs.length:=(List.getElem?_eq_some_iff.1 ha).1
 rw [List.getElem?_take,if_pos hj,List.getElem?_drop] at hv
 exact h j a v ha hv
theorem VR.cell {G:Gh} {x:AV} {y:Value} (hxy:VR G x y) (hx:x.isCell = true):y.oneCell' = true:=by
 cases hxy <;> first | rfl | assumption | (simp [AV.isCell] at hx)
theorem cells_one {v:Value} (h:v.oneCell' = true):v.cells = #[v]:=by cases v <;> first | rfl | (simp [Value.oneCell'] at h)
theorem avcells_one {a:AV} (h:a.isCell = true):a.cells = [a]:=by cases a <;> first | rfl | (simp [AV.isCell] at h)
theorem VRs.one {G:Gh} {a:AV} {v:Value} (h:VR G a v):VRs G [a] [v]:=VRs.cons h (VRs.nil G)
theorem VRs.cellish {G:Gh} {as:List AV} {vs:List Value} (h:VRs G as vs) (ha:as.all AV.isCell = true):∀ x ∈ vs,x.oneCell' = true:=by
 intro x hx
 obtain ⟨j,hj,rfl⟩:=List.getElem_of_mem hx
 have hj':j < as.length:=by rw [h.len]; exact hj
 simp only [List.all_eq_true] at ha
 exact (h.at_ j as[j] _ (List.getElem?_eq_getElem hj') (List.getElem?_eq_getElem hj)).cell (ha _ (List.getElem_mem hj'))
theorem VR.cells {G:Gh} {a:AV} {v:Value} (h:VR G a v) (ha:a.cells.all AV.isCell = true):VRs G a.cells v.cells.toList∧∀ x ∈ v.cells.toList,x.oneCell' = true:=by
 by_cases hc:a.isCell = true
 ·have h1:=h.cell hc
  rw [avcells_one hc,cells_one h1]
  exact ⟨VRs.one h,fun x hx=>by simp at hx; subst hx; exact h1⟩
 ·cases h with
  | agg as xs hx hh=>
   have hv:VRs G as xs.toList:=⟨by simpa using hx,fun j a v ha hv=>hh j a v ha (by simpa using hv)⟩
   exact ⟨hv,hv.cellish ha⟩
  | _=>first | (exfalso; simp [AV.cells,AV.isCell] at ha; done) | (exfalso; simp [AV.isCell] at hc; done)
end Go.St
namespace Go.St
open Go.RowKit
set_option linter.unusedVariables false
set_option linter.unusedSimpArgs false
theorem W1 (n:Nat):∀ l:List AV,olds n l = true ↔ ∀ a ∈ l,a.old n = true:=by
 intro l
 induction l with
 | nil=>simp [olds]
 | cons a r ih=>simp [olds,ih]
theorem all_at {G:Gh} {n:Nat} {cs:List AV} {l:List Value} {o:Nat} (hl:o + cs.length ≤ l.length)
  (ih:∀ (j:Nat) (a:AV) (v:Value),cs[j]? = some a→l[o + j]? = some v→a.old n = true):olds n cs = true:=by
 rw [W1]
 intro a ha
 obtain ⟨j,hj,rfl⟩:=List.getElem_of_mem ha
 exact ih j _ _ (List.getElem?_eq_getElem hj) (List.getElem?_eq_getElem (by omega))
theorem all_at' {n:Nat} {cs:List AV} {l:Array Value} (hl:cs.length = l.size)
  (ih:∀ (j:Nat) (a:AV) (v:Value),cs[j]? = some a→l[j]? = some v→a.old n = true):olds n cs = true:=by
 rw [W1]
 intro a ha
 obtain ⟨j,hj,rfl⟩:=List.getElem_of_mem ha
 exact ih j _ _ (List.getElem?_eq_getElem hj) (Array.getElem?_eq_getElem (by omega))
def Gh.cut (n:Nat) (G:Gh):Gh:={ G with ρ:=fun i g=>if i < n then G.ρ i g else none }
theorem VR.cut {G:Gh} {n:Nat} {a:AV} {v:Value} (h:VR G a v):a.old n = true→VR (G.cut n) a v:=by
 have hρ:∀ i g x,i < n→G.ρ i g = some x→(G.cut n).ρ i g = some x:=fun i g x hi hx=>by simp [Gh.cut,hi,hx]
 induction h with
 | any v=>exact fun _ => .any v
 | one v h=>exact fun _ => .one v h
 | bool b=>exact fun _ => .bool b
 | int k n=>exact fun _ => .int k n
 | str s=>exact fun _ => .str s
 | nilp=>exact fun _ => .nilp
 | ip cs b o l hH hl hh ih=>
  intro ho
  simp only [AV.old,W1] at ho
  exact .ip cs b o l hH hl fun j a v ha hv=>ih j a v ha hv (ho a (List.mem_of_getElem? ha))
 | mp id g off b o hh=>intro ho; exact .mp id g off b o (hρ _ _ _ (by simpa [AV.old] using ho) hh)
 | nils=>exact fun _ => .nils
 | is row len tok b o cap l hH hl hc ht hh h1 ih=>
  intro ho
  simp only [AV.old,Bool.and_eq_true,W1] at ho
  refine .is row len tok b o cap l hH hl hc ?_ (fun j a v ha hv=>ih j a v ha hv (ho.1 a (List.mem_of_getElem? ha))) h1
  cases tok with
  | no=>trivial
  | full=>exact ht
  | cut n=>exact ht
  | tip i g es=>
   obtain ⟨⟨m,x,hx⟩,ht⟩:=ht
   refine ⟨⟨m,x,hρ _ _ _ (by simpa [Tok.old] using ho.2) hx⟩,?_⟩
   rcases ht with ht | ⟨h1,h2⟩
   ·exact .inl ht
   ·exact .inr ⟨hρ _ _ _ (by simpa [Tok.old] using ho.2) h1,h2⟩
 | is0 a cap=>exact fun _ => .is0 a cap
 | ms id g off len es b o cap a hh hc ha=>intro ho; exact .ms id g off len es b o cap a (hρ _ _ _ (by simpa [AV.old] using ho) hh) hc ha
 | nilm=>exact fun _ => .nilm
 | mr id b hh=>intro ho; exact .mr id b (hρ _ _ _ (by simpa [AV.old] using ho) hh)
 | fn f as cs xs ys hf hx hy hh hk ih ik=>
  intro ho
  simp only [AV.old,Bool.and_eq_true,W1] at ho
  exact .fn f as cs xs ys hf hx hy (fun j a v ha hv=>ih j a v ha hv (ho.1.1 a (List.mem_of_getElem? ha))) (fun j a v ha hv=>ik j a v ha hv (ho.1.2 a (List.mem_of_getElem? ha)))
 | nilfn=>exact fun _ => .nilfn
 | ifc t a v hh ih=>intro ho; exact .ifc t a v (ih (by simpa [AV.old] using ho))
 | nili=>exact fun _ => .nili
 | agg as xs hx hh ih=>
  intro ho
  simp only [AV.old,W1] at ho
  exact .agg as xs hx fun j a v ha hv=>ih j a v ha hv (ho a (List.mem_of_getElem? ha))
 | tup as xs hx hh ih=>
  intro ho
  simp only [AV.old,W1] at ho
  exact .tup as xs hx fun j a v ha hv=>ih j a v ha hv (ho a (List.mem_of_getElem? ha))
 | it id b hh=>intro ho; exact .it id b (hρ _ _ _ (by simpa [AV.old] using ho) hh)
 | yl id b hh=>intro ho; exact .yl id b (hρ _ _ _ (by simpa [AV.old] using ho) hh)
theorem V3 (n:Nat):∀ l:List AV,(strips n l).length = l.length:=by
 intro l; induction l with
 | nil=>rfl
 | cons a r ih=>simp [strips,ih]
theorem X7 (n:Nat):∀ (l:List AV) (j:Nat) (a:AV),(strips n l)[j]? = some a→∃ b,l[j]? = some b∧a = b.strip n:=by
 intro l
 induction l with
 | nil=>intro j a h; simp [strips] at h
 | cons x r ih=>
  intro j a h
  cases j with
  | zero=>simp [strips] at h; exact ⟨x,rfl,h.symm⟩
  | succ j=>simp only [strips,List.getElem?_cons_succ] at h ⊢; exact ih j a h
theorem VR.strip {G:Gh} {n:Nat} {a:AV} {v:Value} (h:VR G a v):VR G (a.strip n) v:=by
 induction h with
 | any v=>exact .any v
 | one v h=>exact .one v h
 | bool b=>exact .bool b
 | int k n=>exact .int k n
 | str s=>exact .str s
 | nilp=>exact .nilp
 | ip cs b o l hH hl hh ih=>
  refine .ip _ b o l hH (by rw [V3]; exact hl) fun j a v ha hv=>?_
  obtain ⟨c,hc,rfl⟩:=X7 n cs j a ha
  exact ih j c v hc hv
 | mp id g off b o hh=>exact .mp id g off b o hh
 | nils=>exact .nils
 | is row len tok b o cap l hH hl hc ht hh h1 ih=>
  refine .is _ len _ b o cap l hH (by rw [V3]; exact hl) hc ?_ (fun j a v ha hv=>?_) (fun j v hj hv=>h1 j v (by rwa [V3] at hj) hv)
  ·rw [V3]
   cases tok with
   | no=>trivial
   | full=>exact ht
   | cut n=>exact ht
   | tip i g es=>
    by_cases hi:i < n
    ·simp only [Tok.strip,hi,if_true]; exact ht
    ·simp only [Tok.strip,hi,if_false]; trivial
  ·obtain ⟨c,hc,rfl⟩:=X7 n row j a ha
   exact ih j c v hc hv
 | is0 a cap=>exact .is0 a cap
 | ms id g off len es b o cap a hh hc ha=>exact .ms id g off len es b o cap a hh hc ha
 | nilm=>exact .nilm
 | mr id b hh=>exact .mr id b hh
 | fn f as cs xs ys hf hx hy hh hk ih ik=>
  refine .fn f _ _ xs ys hf (by rw [V3]; exact hx) (by rw [V3]; exact hy) (fun j a v ha hv=>?_) (fun j a v ha hv=>?_)
  ·obtain ⟨c,hc,rfl⟩:=X7 n as j a ha
   exact ih j c v hc hv
  ·obtain ⟨c,hc,rfl⟩:=X7 n cs j a ha
   exact ik j c v hc hv
 | nilfn=>exact .nilfn
 | ifc t a v hh ih=>exact .ifc t _ v ih
 | nili=>exact .nili
 | agg as xs hx hh ih=>
  refine .agg _ xs (by rw [V3]; exact hx) fun j a v ha hv=>?_
  obtain ⟨c,hc,rfl⟩:=X7 n as j a ha
  exact ih j c v hc hv
 | tup as xs hx hh ih=>
  refine .tup _ xs (by rw [V3]; exact hx) fun j a v ha hv=>?_
  obtain ⟨c,hc,rfl⟩:=X7 n as j a ha
  exact ih j c v hc hv
 | it id b hh=>exact .it id b hh
 | yl id b hh=>exact .yl id b hh
def Ob.ver:Ob→Nat
 | .cells g _ _=>g
 | .tip g=>g
 | .dead=>1
 | .loop _=>1
 | _=>0
def free (fr:Nat × Nat) (off size:Nat):Prop:=∀ k,off ≤ k→k < size→¬ (fr.1 ≤ k∧k < fr.2)
def BldR (T e:TypeId) (G:Gh) (own:Nat→Option Nat) (w:World) (i b:Nat) (s:ByteArray):Prop:=
 ∃ p v,(p = .pointer none∨p = .pointer (some ⟨b,0,none⟩))∧w.heap[b]? = some (.cells #[p,v] T (0,0))∧G.H b = none ∧
  ((v = .slice none 0 0∧s = ByteArray.empty)∨∃ g cap cur fz,v = .slice (some ⟨g,0,none⟩) s.size cap∧own g = some i∧g ≠ b∧G.H g = none∧w.heap[g]? = some (.cells cur e (0,fz)) ∧
   s.size ≠ 0∧fz ≤ s.size∧s.size ≤ cap∧cap ≤ maxLen∧cur.size = cap∧cur.toList.take s.size = s.data.toList.map fun b=>Value.int .u8 b.toNat)
def ObR (T e:TypeId) (G:Gh) (own:Nat→Option Nat) (w:World) (i:Nat):Ob→Prop
 | .dead=>True
 | .cells g cs fz=>∃ b o arr t fr,G.ρ i g = some (b,o)∧own b = some i∧G.H b = none∧G.Z b = some arr.size∧w.heap[b]? = some (.cells arr t fr) ∧
   o + cs.length ≤ arr.size∧VRs G cs ((arr.toList.drop o).take cs.length)∧(∀ v ∈ (arr.toList.drop o).take cs.length,v.oneCell' = true)∧(fz ≤ cs.length→free fr (o + fz) arr.size)
 | .tip g=>∃ b l arr t fr,G.ρ i g = some (b,l.length)∧own b = some i∧G.H b = some l∧G.Z b = some arr.size∧w.heap[b]? = some (.cells arr t fr)∧free fr l.length arr.size
 | .bld s=>∃ b,G.ρ i 0 = some (b,0)∧own b = some i∧BldR T e G own w i b s
 | .iter s pos=>∃ b,G.ρ i 0 = some (b,0)∧own b = some i∧w.heap[b]? = some (.stringIter s pos)
 | .map es=>∃ b arr,G.ρ i 0 = some (b,0)∧own b = some i∧w.heap[b]? = some (.map arr arr.size)∧arr.size = es.length ∧
   ∀ (j:Nat) (x:AV × AV) (y:MapEntry),es[j]? = some x→arr[j]? = some y→VR G x.1 y.key∧VR G x.2 y.val∧y.born = j
 | .loop l=>∃ b r tmps,G.ρ i 0 = some (b,0)∧G.ρ i 1 = some (r,0)∧own b = some i∧own r = some i∧b ≠ r ∧
   w.heap[b]? = some (.loop { state:=l.state,pending:=l.pending,fn:=l.fn,tmps:=tmps,params:=l.params.toArray,assign:=l.assign,body:=l.body,defers:=r }) ∧
   VRs G l.env tmps.toList∧w.heap[r]? = some (.deferred (some []))
structure a13 (T e:TypeId) (w0:World) (G:Gh) (own:Nat→Option Nat) (st:Sto) (w:World):Prop where
 below:Below w0.heap.size w0 w
 prot:∀ b l,G.H b = some l→∃ arr t fr m,w.heap[b]? = some (.cells arr t fr)∧arr.toList = l ++ m
 size:∀ b n,G.Z b = some n→∃ arr t fr,w.heap[b]? = some (.cells arr t fr)∧arr.size = n
 dom:∀ i g x,G.ρ i g = some x→∃ ob,st[i]? = some ob∧g ≤ ob.ver
 ownlt:∀ b i,own b = some i→w0.heap.size ≤ b∧b < w.heap.size
 obj:∀ i ob,st[i]? = some ob→ObR T e G own w i ob
def Rel (T e:TypeId) (w0:World) (G:Gh) (st:Sto) (w:World):Prop:=∃ own,a13 T e w0 G own st w
theorem ObR.frame {T e:TypeId} {G G':Gh} {own own':Nat→Option Nat} {w w':World} {i:Nat} {ob:Ob} (h:ObR T e G own w i ob) (hG:G.le G')
  (hk:∀ b,own b = some i→w'.heap[b]? = w.heap[b]?∧own' b = some i∧G'.H b = G.H b):ObR T e G' own' w' i ob:=by
 cases ob with
 | dead=>trivial
 | cells g cs fz=>
  obtain ⟨b,o,arr,t,fr,h1,h2,h3,h4,h5,h6,h7,h9,h8⟩:=h
  obtain ⟨k1,k2,k3⟩:=hk b h2
  exact ⟨b,o,arr,t,fr,hG.ρ _ _ _ h1,k2,k3.trans h3,hG.Z _ _ h4,k1.trans h5,h6,h7.mono hG,h9,h8⟩
 | tip g=>
  obtain ⟨b,l,arr,t,fr,h1,h2,h3,h4,h5,h6⟩:=h
  obtain ⟨k1,k2,k3⟩:=hk b h2
  exact ⟨b,l,arr,t,fr,hG.ρ _ _ _ h1,k2,k3.trans h3,hG.Z _ _ h4,k1.trans h5,h6⟩
 | bld s=>
  obtain ⟨b,h1,h2,p,v,hp,hb,hH,hv⟩:=h
  obtain ⟨k1,k2,k3⟩:=hk b h2
  refine ⟨b,hG.ρ _ _ _ h1,k2,p,v,hp,k1.trans hb,k3.trans hH,?_⟩
  rcases hv with hv | ⟨g,cap,cur,fz,hv,hg,hgb,hgH,hgh,r⟩
  ·exact .inl hv
  ·obtain ⟨m1,m2,m3⟩:=hk g hg
   exact .inr ⟨g,cap,cur,fz,hv,m2,hgb,m3.trans hgH,m1.trans hgh,r⟩
 | iter s pos=>
  obtain ⟨b,h1,h2,h3⟩:=h
  obtain ⟨k1,k2,k3⟩:=hk b h2
  exact ⟨b,hG.ρ _ _ _ h1,k2,k1.trans h3⟩
 | map es=>
  obtain ⟨b,arr,h1,h2,h3,h4,h5⟩:=h
  obtain ⟨k1,k2,k3⟩:=hk b h2
  exact ⟨b,arr,hG.ρ _ _ _ h1,k2,k1.trans h3,h4,fun j x y hx hy=>let ⟨a,b,c⟩:=h5 j x y hx hy; ⟨a.mono hG,b.mono hG,c⟩⟩
 | loop l=>
  obtain ⟨b,r,tmps,h1,h2,h3,h4,h5,h6,h7,h8⟩:=h
  obtain ⟨k1,k2,_⟩:=hk b h3
  obtain ⟨m1,m2,_⟩:=hk r h4
  exact ⟨b,r,tmps,hG.ρ _ _ _ h1,hG.ρ _ _ _ h2,k2,m2,h5,k1.trans h6,h7.mono hG,m1.trans h8⟩
theorem a13.upd {T e:TypeId} {w0:World} {G G':Gh} {own own':Nat→Option Nat} {st st':Sto} {w w':World} (h:a13 T e w0 G own st w) (S:Nat→Prop) (i:Nat) (ob':Ob)
  (hos:w'.os = w.os) (htape:w'.tape = w.tape) (hout:w'.output = w.output) (hsz:w.heap.size ≤ w'.heap.size) (hother:∀ k,¬ S k→w'.heap[k]? = w.heap[k]?)
  (hS:∀ k,S k→w0.heap.size ≤ k∧(own k = none∨own k = some i))
  (hG:G.le G') (hH:∀ k,¬ S k→G'.H k = G.H k) (hHS:∀ k l,S k→G'.H k = some l→∃ arr t fr m,w'.heap[k]? = some (.cells arr t fr)∧arr.toList = l ++ m)
  (hZ:∀ k n,G'.Z k = some n→(¬ S k∧G.Z k = some n)∨∃ arr t fr,w'.heap[k]? = some (.cells arr t fr)∧arr.size = n)
  (hst:(st' = st.set i ob'∧∃ ob,st[i]? = some ob∧ob.ver ≤ ob'.ver)∨(st' = st ++ [ob']∧i = st.length))
  (hown:∀ k,own' k = own k∨(S k∧(own' k = some i∨own' k = none)∧k < w'.heap.size))
  (hρ:∀ j g x,G'.ρ j g = some x→G.ρ j g = some x∨(j = i∧g ≤ ob'.ver))
  (hob:ObR T e G' own' w' i ob'):a13 T e w0 G' own' st' w':=by
 have hlen:st.length ≤ st'.length:=by rcases hst with ⟨rfl,_⟩ | ⟨rfl,_⟩ <;> simp
 have hi:st'[i]? = some ob':=by
  rcases hst with ⟨rfl,ob,hob,_⟩ | ⟨rfl,rfl⟩
  ·have:i < st.length:=(List.getElem?_eq_some_iff.1 hob).1
   simp [this]
  ·simp
 have hne:∀ j,j ≠ i→st'[j]? = st[j]?:=by
  intro j hj
  rcases hst with ⟨rfl,_⟩ | ⟨rfl,rfl⟩
  ·rw [List.getElem?_set_ne (Ne.symm hj)]
  ·rw [List.getElem?_append]
   split
   ·rfl
   ·rename_i hjl
    rw [List.getElem?_eq_none (by simp; omega),List.getElem?_eq_none (by omega)]
 refine ⟨⟨hos.trans h.below.os,htape.trans h.below.tape,hout.trans h.below.output,Nat.le_trans h.below.size hsz,fun k hk=>?_⟩,fun b l hb=>?_,fun b n hn=>?_,fun j g x hx=>?_,fun b j hb=>?_,fun j ob hj=>?_⟩
 ·rw [hother k (fun hs=>by have:=(hS k hs).1; omega)]
  exact h.below.block k hk
 ·by_cases hs:S b
  ·exact hHS b l hs hb
  ·rw [hother b hs]; exact h.prot b l (by rw [←hH b hs]; exact hb)
 ·rcases hZ b n hn with ⟨hs,hz⟩ | hz
  ·rw [hother b hs]; exact h.size b n hz
  ·exact hz
 ·rcases hρ j g x hx with hx | ⟨rfl,hg⟩
  ·obtain ⟨ob,ho,hv⟩:=h.dom j g x hx
   by_cases hj:j = i
   ·subst hj
    refine ⟨ob',hi,?_⟩
    rcases hst with ⟨_,ob2,ho2,hv2⟩ | ⟨_,rfl⟩
    ·rw [ho] at ho2; cases ho2; omega
    ·have:=(List.getElem?_eq_some_iff.1 ho).1; omega
   ·exact ⟨ob,by rw [hne j hj]; exact ho,hv⟩
  ·exact ⟨ob',hi,hg⟩
 ·rcases hown b with hb' | ⟨hs,hb',hlt⟩
  ·rw [hb'] at hb; have:=h.ownlt b j hb; exact ⟨this.1,by omega⟩
  ·exact ⟨(hS b hs).1,hlt⟩
 ·by_cases hji:j = i
  ·subst hji
   rw [hi] at hj
   cases hj
   exact hob
  ·rw [hne j hji] at hj
   refine (h.obj j ob hj).frame hG fun b hb=>?_
   have hs:¬ S b:=fun hs=>by
    rcases (hS b hs).2 with h' | h'
    ·rw [h'] at hb; cases hb
    ·rw [h'] at hb; exact hji (Option.some.inj hb).symm
   refine ⟨hother b hs,?_,hH b hs⟩
   rcases hown b with hb' | ⟨hs',_⟩
   ·rw [hb']; exact hb
   ·exact absurd hs' hs
theorem a13.newrow {T e:TypeId} {w0:World} {G:Gh} {own:Nat→Option Nat} {st:Sto} {w:World} (h:a13 T e w0 G own st w) (arr:Array Value) (t:TypeId) (fr:Nat × Nat) :
  a13 T e w0 { G with H:=fun b=>if b = w.heap.size then some arr.toList else G.H b,Z:=fun b=>if b = w.heap.size then some arr.size else G.Z b } own st (w.alloc (.cells arr t fr)) ∧
  G.le { G with H:=fun b=>if b = w.heap.size then some arr.toList else G.H b,Z:=fun b=>if b = w.heap.size then some arr.size else G.Z b }:=by
 have hold:∀ k,k < w.heap.size→(w.alloc (.cells arr t fr)).heap[k]? = w.heap[k]?:=fun k hk=>Below.heap_alloc w _ k hk
 have hnew:(w.alloc (.cells arr t fr)).heap[w.heap.size]? = some (.cells arr t fr):=by show (w.heap.push _)[w.heap.size]? = _; simp
 have hHlt:∀ b l,G.H b = some l→b < w.heap.size:=fun b l hb=>by
  obtain ⟨_,_,_,_,hh,_⟩:=h.prot b l hb
  exact (Array.getElem?_eq_some_iff.1 hh).1
 have hZlt:∀ b l,G.Z b = some l→b < w.heap.size:=fun b l hb=>by
  obtain ⟨_,_,_,hh,_⟩:=h.size b l hb
  exact (Array.getElem?_eq_some_iff.1 hh).1
 have hle:G.le { G with H:=fun b=>if b = w.heap.size then some arr.toList else G.H b,Z:=fun b=>if b = w.heap.size then some arr.size else G.Z b }:=
  ⟨fun _ _ _ hx=>hx,fun b l hb=>⟨[],by have:=hHlt b l hb; simp only [List.append_nil]; rw [if_neg (by omega)]; exact hb⟩,fun b n hb=>by have:=hZlt b n hb; simp only; rw [if_neg (by omega)]; exact hb⟩
 refine ⟨⟨h.below.alloc (h.below.size) _,fun b l hb=>?_,fun b n hn=>?_,h.dom,fun b i hb=>?_,fun i ob hi=>?_⟩,hle⟩
 ·simp only at hb
  split at hb
  ·rename_i hb'; subst hb'; cases hb; exact ⟨arr,t,fr,[],hnew,by simp⟩
  ·rw [hold b (hHlt b l hb)]; exact h.prot b l hb
 ·simp only at hn
  split at hn
  ·rename_i hb'; subst hb'; cases hn; exact ⟨arr,t,fr,hnew,rfl⟩
  ·rw [hold b (hZlt b n hn)]; exact h.size b n hn
 ·have:=h.ownlt b i hb
  exact ⟨this.1,by show b < (w.heap.push _).size; simp; omega⟩
 ·refine (h.obj i ob hi).frame hle fun b hb=>?_
  have:=h.ownlt b i hb
  exact ⟨hold b this.2,hb,by simp only; rw [if_neg (by omega)]⟩
theorem a13.drawn {T e:TypeId} {w0:World} {G:Gh} {own:Nat→Option Nat} {st:Sto} {w:World} (h:a13 T e w0 G own st w) (n:Nat):a13 T e w0 G own st { w with drawn:=n }:=by
 refine ⟨⟨h.below.os,h.below.tape,h.below.output,h.below.size,h.below.block⟩,h.prot,h.size,h.dom,h.ownlt,fun i ob hi=>?_⟩
 exact (h.obj i ob hi).frame (Gh.le.refl G) fun b hb=>⟨rfl,hb,rfl⟩
theorem a13.new {T e:TypeId} {w0:World} {G:Gh} {own:Nat→Option Nat} {st:Sto} {w:World} (h:a13 T e w0 G own st w) (ob:Ob) (o:Obj) (G':Gh) (own':Nat→Option Nat)
  (hown':own' = fun k=>if k = w.heap.size then some st.length else own k)
  (hG:G.le G') (hH:∀ k,k ≠ w.heap.size→G'.H k = G.H k) (hHS:∀ l,G'.H w.heap.size = some l→∃ arr t fr m,o = .cells arr t fr∧arr.toList = l ++ m)
  (hZ:∀ k n,G'.Z k = some n→(k ≠ w.heap.size∧G.Z k = some n)∨(k = w.heap.size∧∃ arr t fr,o = .cells arr t fr∧arr.size = n))
  (hρ:∀ j g x,G'.ρ j g = some x→G.ρ j g = some x∨(j = st.length∧g ≤ ob.ver))
  (hob:ObR T e G' own' (w.alloc o) st.length ob):a13 T e w0 G' own' (st ++ [ob]) (w.alloc o):=by
 subst hown'
 have hnew:(w.alloc o).heap[w.heap.size]? = some o:=by show (w.heap.push _)[w.heap.size]? = _; simp
 refine h.upd (S:=fun k=>k = w.heap.size) st.length ob rfl rfl rfl (by show w.heap.size ≤ (w.heap.push _).size; simp) (fun k hk=>?_) (fun k hk=>?_) hG hH (fun k l hk hl=>?_) (fun k n hn=>?_) (.inr ⟨rfl,rfl⟩) (fun k=>?_) hρ hob
 ·show (w.heap.push _)[k]? = _
  rw [Array.getElem?_push,if_neg hk]
 ·subst hk
  refine ⟨h.below.size, .inl ?_⟩
  cases ho:own w.heap.size with
  | none=>rfl
  | some i=>have:=(h.ownlt _ _ ho).2; omega
 ·subst hk
  obtain ⟨arr,t,fr,m,rfl,hm⟩:=hHS l hl
  exact ⟨arr,t,fr,m,hnew,hm⟩
 ·rcases hZ k n hn with ⟨h1,h2⟩ | ⟨rfl,arr,t,fr,rfl,h3⟩
  ·exact .inl ⟨h1,h2⟩
  ·exact .inr ⟨arr,t,fr,hnew,h3⟩
 ·by_cases hk:k = w.heap.size
  ·exact .inr ⟨hk, .inl (by simp [hk]),by subst hk; show _ < (w.heap.push _).size; simp⟩
  ·exact .inl (by simp [hk])
end Go.St
namespace Go.St
open Go.RowKit
set_option linter.unusedVariables false
set_option linter.unusedSimpArgs false
def zrB:AV→Value→Bool
 | .bool a, .bool b=>a == b
 | .int k n, .int k' n'=>k == k' && n == n'
 | .str s, .string t=>decide (s = t)
 | .nilp, .pointer none=>true
 | .nils, .slice none 0 0=>true
 | .nilm, .map none=>true
 | .nilfn, .nilFunc=>true
 | .nili, .nilIface=>true
 | _,_=>false
def zrsB:List AV→List Value→Bool
 | [],[]=>true
 | a :: as,v :: vs=>zrB a v && zrsB as vs
 | _,_=>false
def fieldsB:List (Nat × TypeId)→List Field→Bool
 | [],[]=>true
 | (o,t) :: r,f :: fs=>o == f.offset && t == f.type && fieldsB r fs
 | _,_=>false
def Q0:TK→TypeDesc→Bool
 | .bool, .bool=>true
 | .int k, .int k'=>k == k'
 | .str, .string=>true
 | .ptr e, .pointer e'=>e == e'
 | .slice e, .slice e'=>e == e'
 | .arr n e, .array n' e'=>n == n' && e == e'
 | .struct fs, .struct fs'=>fieldsB fs fs'.toList
 | .map k e, .map k' e'=>k == k' && e == e'
 | .func, .func _ _ _=>true
 | .iface n, .interface ms=>n == ms.size
 | .tuple, .tuple _=>true
 | .unsafeP, .unsafePointer=>true
 | .other, .float _=>true
 | .other, .complex _=>true
 | .other, .chan _ _=>true
 | _,_=>false
def tdB (P:Program) (t:TypeId) (td:TD):Bool:=
 match P.info? t,P.underlying t with
 | some i,some d=>i.size == td.size && i.bytes == td.bytes && Q0 td.k d &&
   (match i.zero with | some z=>zrsB td.zero z.cells.toList && (match z with | .agg _=>td.isAgg | .tuple _=>false | _=>!td.isAgg) && td.zero.length == td.size | none=>false)
 | _,_=>false
structure TdOk (P:Program) (t:TypeId) (td:TD):Prop where
 ok:∃ i d,P.info? t = some i∧P.underlying t = some d∧i.size = td.size∧i.bytes = td.bytes∧Q0 td.k d = true ∧
  ∃ z,i.zero = some z∧zrsB td.zero z.cells.toList = true∧(td.isAgg = true→∃ cs,z = .agg cs)∧(td.isAgg = false→z.oneCell' = true)∧td.zero.length = td.size
theorem tdOk_of {P:Program} {t:TypeId} {td:TD} (h:tdB P t td = true):TdOk P t td:=by
 unfold tdB at h
 split at h
 ·rename_i i d hi hd
  simp only [Bool.and_eq_true,beq_iff_eq] at h
  obtain ⟨⟨⟨h1,h2⟩,h3⟩,h4⟩:=h
  refine ⟨i,d,hi,hd,h1,h2,h3,?_⟩
  split at h4
  ·rename_i z hz
   simp only [Bool.and_eq_true,beq_iff_eq] at h4
   obtain ⟨⟨a,c⟩,dd⟩:=h4
   refine ⟨z,hz,a,fun ha=>?_,fun ha=>?_,dd⟩
   ·cases z <;> simp_all
   ·cases z <;> simp_all [Value.oneCell']
  ·cases h4
 ·cases h
def X1 (P:Program) (A:P2):Prop:=∀ t td,P0 t A.tab = some td→TdOk P t td
theorem assoc_mem {α:Type} {k:Nat} {l:List (Nat × α)} {a:α} (h:P0 k l = some a):(k,a) ∈ l:=by
 induction l with
 | nil=>cases h
 | cons x r ih=>
  obtain ⟨j,b⟩:=x
  unfold P0 at h
  split at h
  ·rename_i hj; cases h; subst hj; simp
  ·exact List.mem_cons_of_mem _ (ih h)
theorem tabOk_of {P:Program} {A:P2} (h:(A.tab.all fun x=>tdB P x.1 x.2) = true):X1 P A:=by
 intro t td ht
 rw [List.all_eq_true] at h
 exact tdOk_of (h _ (assoc_mem ht))
theorem zrB_VR {a:AV} {v:Value} (h:zrB a v = true) (G:Gh):VR G a v∧a.isCell = true:=by
 unfold zrB at h
 split at h <;> first
  | (simp only [beq_iff_eq] at h; subst h; exact ⟨by constructor,rfl⟩)
  | (simp only [decide_eq_true_eq] at h; subst h; exact ⟨by constructor,rfl⟩)
  | (simp only [Bool.and_eq_true,beq_iff_eq] at h; obtain ⟨rfl,rfl⟩:=h; exact ⟨by constructor,rfl⟩)
  | exact ⟨by constructor,rfl⟩
  | cases h
theorem zrsB_VRs:∀ {as:List AV} {vs:List Value},zrsB as vs = true→∀ G,VRs G as vs∧as.all AV.isCell = true:=by
 intro as
 induction as with
 | nil=>intro vs h G; cases vs with | nil=>exact ⟨VRs.nil G,rfl⟩ | cons _ _=>cases h
 | cons a as ih=>
  intro vs h G
  cases vs with
  | nil=>cases h
  | cons v vs=>
   simp only [zrsB,Bool.and_eq_true] at h
   have h1:=zrB_VR h.1 G
   have h2:=ih h.2 G
   exact ⟨VRs.cons h1.1 h2.1,by simp [h1.2]; simpa using h2.2⟩
def P5 (P:Program) (A:P2) (w0:World) (G:Gh) (s:Sem Value) (w:World) (v:AV) (st':Sto):Prop:=
 ∃ v' w' G',s.run P w = .ok v' w'∧G.le G'∧Rel A.bld A.u8 w0 G' st' w'∧VR G' v v'
def GivesU (P:Program) (A:P2) (w0:World) (G:Gh) (s:Sem Unit) (w:World) (st':Sto):Prop:=
 ∃ w' G',s.run P w = .ok () w'∧G.le G'∧Rel A.bld A.u8 w0 G' st' w'
section
variable {P:Program} {A:P2} {w0:World} {G:Gh} {st st':Sto} {w:World}
theorem P5.same {s:Sem Value} {v:AV} {v':Value} (hR:Rel A.bld A.u8 w0 G st w) (h:s.run P w = .ok v' w) (hv:VR G v v'):P5 P A w0 G s w v st:=
 ⟨v',w,G,h,Gh.le.refl G,hR,hv⟩
theorem r_info {t:TypeId} {i:TypeInfo} (h:P.info? t = some i) (w:World):(typeInfo t).run P w = .ok i w:=by simp [typeInfo,h]
theorem X0 {t:TypeId} {i:TypeInfo} (h:P.info? t = some i) (w:World):(sizeOf t).run P w = .ok i.size w:=by simp [sizeOf,r_info h]
theorem a4v {t:TypeId} {i:TypeInfo} {z:Value} (h:P.info? t = some i) (hz:i.zero = some z) (w:World):(zeroValue t).run P w = .ok z w:=by simp [zeroValue,r_info h,hz]
theorem a2m {t:TypeId} {td:TD} {d:TypeDesc} (hd:P.underlying t = some d) (hk:Q0 td.k d = true) (w:World):(isAgg t).run P w = .ok td.isAgg w:=by
 simp only [isAgg,Sem.run_bind,run_underlying hd,Result.andThen_ok]
 obtain ⟨k,_,_,_⟩:=td
 cases k <;> cases d <;> first | rfl | (simp [Q0] at hk)
theorem add_lit (b o j:Nat):(⟨b,o,none⟩:Addr).add j = ⟨b,o + j,none⟩:=by unfold Addr.add; split <;> simp_all
theorem a0j {b:Nat} {arr:Array Value} {t:TypeId} {fr:Nat × Nat} (h:w.heap[b]? = some (.cells arr t fr)) (o:Nat):w.cell? ⟨b,o,none⟩ = arr[o]?:=by simp [World.cell?,h]
theorem a1X (hR:Rel A.bld A.u8 w0 G st w) {p:AV} {n:Nat} {cs:List AV} {pv:Value} (h:V7 st p n = some cs) (hp:VR G p pv) :
  ∃ (b o:Nat) (vs:List Value),pv = .pointer (some ⟨b,o,none⟩)∧VRs G cs vs∧vs.length = n∧∀ j v,vs[j]? = some v→w.cell? ⟨b,o + j,none⟩ = some v:=by
 obtain ⟨own,hR⟩:=hR
 cases hp with
 | ip xs b o l hH hl hh=>
  simp only [V7] at h
  split at h
  ·rename_i hn
   cases h
   obtain ⟨arr,t,fr,m,hb,hm⟩:=hR.prot b l hH
   have hv:=(VRs.of_row hl hh).take n
   rw [List.take_take] at hv
   refine ⟨b,o,(l.drop o).take (min n xs.length),rfl,hv,by simp; omega,fun j v hv=>?_⟩
   rw [a0j hb,←Array.getElem?_toList,hm]
   rw [List.getElem?_take] at hv
   split at hv
   ·rw [List.getElem?_drop] at hv
    rw [List.getElem?_append_left (by have:=(List.getElem?_eq_some_iff.1 hv).1; exact this)]
    exact hv
   ·cases hv
  ·cases h
 | mp id g off b o hρ=>
  simp only [V7] at h
  split at h
  ·rename_i g' cs' fz hid
   split at h
   ·rename_i hc
    obtain ⟨rfl,hc⟩:=hc
    cases h
    obtain ⟨b',o',arr,t,fr,h1,h2,h3,h4,h5,h6,h7,h9,h8⟩:=hR.obj id _ hid
    rw [hρ] at h1
    cases h1
    refine ⟨b,o + off,(((arr.toList.drop o).take cs'.length).drop off).take n,rfl,(h7.drop off).take n,by simp; omega,fun j v hv=>?_⟩
    rw [a0j h5,←Array.getElem?_toList]
    rw [List.getElem?_take] at hv
    split at hv
    ·rw [List.getElem?_drop,List.getElem?_take] at hv
     split at hv
     ·rw [List.getElem?_drop] at hv
      rw [←hv]
      congr 1
      omega
     ·cases hv
    ·cases hv
   ·cases h
  ·cases h
 | _=>simp [V7] at h
theorem g_load (hT:X1 P A) (hR:Rel A.bld A.u8 w0 G st w) {t:TypeId} {td:TD} (ht:P0 t A.tab = some td) {p v:AV} {pv:Value} (h:ld td.isAgg td.size st p = some v) (hp:VR G p pv) :
  P5 P A w0 G (Instr.loadAt t pv) w v st:=by
 obtain ⟨i,d,hi,hd,hs,_,hk,_⟩:=(hT t td ht).ok
 unfold ld at h
 cases hc:V7 st p td.size with
 | none=>simp [hc] at h
 | some cs=>
  simp only [hc,Option.bind_some] at h
  obtain ⟨b,o,vs,rfl,hv,hn,hcell⟩:=a1X hR hc hp
  have hcells:(loadCells ⟨b,o,none⟩ td.size).run P w = .ok vs.toArray w:=by
   rw [←hn]
   exact run_loadCells_list w ⟨b,o,none⟩ vs fun j v hj=>by rw [add_lit]; exact hcell j v hj
  unfold pack at h
  cases hag:td.isAgg with
  | true=>
   simp only [hag,if_true] at h
   cases h
   refine P5.same (v' := .agg vs.toArray) hR ?_ (.agg cs vs.toArray (by simpa using hv.len) fun j a v ha hv'=>hv.at_ j a v ha (by simpa using hv'))
   simp [Instr.loadAt,Instr.sureAddr,loadVar,a2m hd hk,hag,X0 hi,hs,hcells]
  | false=>
   simp only [hag,Bool.false_eq_true,if_false] at h
   split at h
   ·rename_i c
    cases h
    obtain ⟨v',ws,rfl,h1,h2⟩:=hv.head
    have hw:w.cell? ⟨b,o,none⟩ = some v':=by have:=hcell 0 v' rfl; simpa using this
    refine P5.same (v':=v') hR ?_ h1
    simp [Instr.loadAt,Instr.sureAddr,loadVar,a2m hd hk,hag,hw]
   ·cases h
theorem a3y {α:Type} (xs:List α) (o:Nat) (v:α) (r:List α) (h:o < xs.length):splice (xs.set o v) (o + 1) r = splice xs o (v :: r):=by
 unfold splice
 rw [List.set_eq_take_append_cons_drop,if_pos h]
 have h1:(xs.take o).length = o:=by simp; omega
 have e1:(xs.take o ++ v :: xs.drop (o + 1)).take (o + 1) = xs.take o ++ [v]:=by
  rw [List.take_append,h1]
  simp [List.take_of_length_le (show (xs.take o).length ≤ o + 1 by omega)]
 have e2:(xs.take o ++ v :: xs.drop (o + 1)).drop (o + 1 + r.length) = xs.drop (o + (v :: r).length):=by
  rw [List.drop_append,h1]
  have:o + 1 + r.length - o = r.length + 1:=by omega
  rw [this,List.drop_succ_cons,List.drop_drop,List.drop_of_length_le (by omega)]
  simp only [List.nil_append,List.length_cons]
  congr 1
  omega
 rw [e1,e2]
 simp
theorem a0t (b:Nat) (t:TypeId) (fr:Nat × Nat):∀ (vs:List Value) (o:Nat) (w:World) (arr:Array Value),w.heap[b]? = some (.cells arr t fr)→o + vs.length ≤ arr.size →
  (w.setCells b o vs).heap[b]? = some (.cells (splice arr.toList o vs).toArray t fr):=by
 intro vs
 induction vs with
 | nil=>
  intro o w arr h hl
  simp only [World.setCells]
  rw [h]
  simp [splice]
 | cons v r ih=>
  intro o w arr h hl
  simp only [List.length_cons] at hl
  simp only [World.setCells]
  have h1:(w.setCell ⟨b,o,none⟩ v).heap[b]? = some (.cells (arr.setIfInBounds o v) t fr):=by simp [World.setCell,Array.getElem?_modify,h]
  rw [ih (o + 1) _ _ h1 (by simp; omega)]
  rw [Array.toList_setIfInBounds,a3y _ _ _ _ (by simp; omega)]
theorem a0D (b:Nat):∀ (vs:List Value) (o:Nat) (w:World) (k:Nat),k ≠ b→(w.setCells b o vs).heap[k]? = w.heap[k]?:=by
 intro vs
 induction vs with
 | nil=>intro o w k hk; rfl
 | cons v r ih=>intro o w k hk; simp only [World.setCells]; rw [ih _ _ _ hk]; exact Below.heap_setCell _ _ _ _ hk
theorem a0v (b:Nat):∀ (vs:List Value) (o:Nat) (w:World),(w.setCells b o vs).os = w.os∧(w.setCells b o vs).tape = w.tape∧(w.setCells b o vs).output = w.output∧(w.setCells b o vs).heap.size = w.heap.size:=by
 intro vs
 induction vs with
 | nil=>intro o w; exact ⟨rfl,rfl,rfl,rfl⟩
 | cons v r ih=>intro o w; simp only [World.setCells]; have:=ih (o + 1) (w.setCell ⟨b,o,none⟩ v); simpa [World.setCell] using this
theorem W8 {α:Type} (xs ys:List α) (o:Nat) (h:o + ys.length ≤ xs.length):(splice xs o ys).length = xs.length:=by simp [splice]; omega
theorem a4w {α:Type} (xs ys:List α) (o off n:Nat) (h:o + n ≤ xs.length) (h2:off + ys.length ≤ n):((splice xs (o + off) ys).drop o).take n = splice ((xs.drop o).take n) off ys:=by
 unfold splice
 apply List.ext_getElem?
 intro k
 simp only [List.getElem?_append,List.getElem?_take,List.getElem?_drop,List.length_take,List.length_drop]
 have m1:min (o + off) xs.length = o + off:=by omega
 have m2:min off (min n (xs.length - o)) = off:=by omega
 rw [m1,m2]
 by_cases hk:k < n
 ·by_cases h1:k < off
  ·have e1:o + k < o + off:=by omega
   simp [hk,h1,e1]
  ·have e1:¬ o + k < o + off:=by omega
   have e2:o + k - (o + off) = k - off:=by omega
   simp only [hk,h1,e1,e2,if_true,if_false]
   by_cases h3:k - off < ys.length
   ·simp [h3]
   ·have e3:off + ys.length + (k - off - ys.length) < n:=by omega
    have e4:o + (off + ys.length + (k - off - ys.length)) = o + off + ys.length + (k - off - ys.length):=by omega
    simp [h3,e3,e4]
 ·have e1:¬ k < off:=by omega
  have e2:¬ k - off < ys.length:=by omega
  have e3:¬ off + ys.length + (k - off - ys.length) < n:=by omega
  simp [hk,e1,e2,e3]
theorem stCells_sound (hR:Rel A.bld A.u8 w0 G st w) {p:AV} {vs:List AV} {pv:Value} {ws:List Value} (h:W6 st p vs = some st') (hp:VR G p pv) (hv:VRs G vs ws) :
  ∃ (b o:Nat),pv = .pointer (some ⟨b,o,none⟩)∧(storeCells ⟨b,o,none⟩ ws).run P w = .ok () (w.setCells b o ws)∧Rel A.bld A.u8 w0 G st' (w.setCells b o ws):=by
 obtain ⟨own,hR⟩:=hR
 cases hp with
 | mp id g off b o hρ=>
  simp only [W6] at h
  split at h
  ·rename_i g' cs fz hid
   split at h
   ·rename_i hc
    obtain ⟨rfl,hfz,hc,hall⟩:=hc
    cases h
    obtain ⟨b',o',arr,t,fr,h1,h2,h3,h4,h5,h6,h7,h9,h8⟩:=hR.obj id _ hid
    rw [hρ] at h1
    cases h1
    have hone:=hv.cellish hall
    have hlen:ws.length = vs.length:=hv.len.symm
    have hst:=run_storeCells_cells (P:=P) b (o + off) ws 0 w (fun j hj=>by rw [a0j h5]; rw [Array.getElem?_eq_getElem (by omega)]; rfl)
     (fun j hj=>by
      have:=h8 (by omega) (o + off + 0 + j) (by omega) (by omega)
      obtain ⟨lo,hi⟩:=fr
      simp only at this
      simp only [World.frozen?,h5,Bool.and_eq_false_iff,decide_eq_false_iff_not]
      omega) hone
    simp only [Nat.add_zero] at hst
    refine ⟨b,o + off,rfl,hst,own,?_⟩
    have hsm:=a0v b ws (o + off) w
    have hb:=a0t b t fr ws (o + off) w arr h5 (by omega)
    refine hR.upd (S:=fun k=>k = b) id _ hsm.1 hsm.2.1 hsm.2.2.1 (by rw [hsm.2.2.2]; exact Nat.le_refl _) (fun k hk=>a0D b ws _ w k hk) (fun k hk=>?_) (Gh.le.refl G) (fun _ _=>rfl)
     (fun k l hk hl=>?_) (fun k n hn=>?_) (.inl ⟨rfl,_,hid,Nat.le_refl _⟩) (fun k => .inl rfl) (fun j g x hx => .inl hx) ?_
    ·subst hk; exact ⟨(hR.ownlt _ _ h2).1, .inr h2⟩
    ·subst hk; rw [h3] at hl; cases hl
    ·by_cases hk:k = b
     ·subst hk; rw [h4] at hn; cases hn
      exact .inr ⟨_,t,fr,hb,by simp [W8 _ _ _ (show o + off + ws.length ≤ arr.toList.length by simp; omega)]⟩
     ·exact .inl ⟨hk,hn⟩
    ·have hsz:(splice arr.toList (o + off) ws).toArray.size = arr.size:=by simp [W8 _ _ _ (show o + off + ws.length ≤ arr.toList.length by simp; omega)]
     have e:((splice arr.toList (o + off) ws).toArray.toList.drop o).take cs.length = splice ((arr.toList.drop o).take cs.length) off ws:=by
      simpa using a4w arr.toList ws o off cs.length (by simpa using h6) (by omega)
     refine ⟨b,o,_,t,fr,hρ,h2,h3,by rw [hsz]; exact h4,hb,by rw [hsz,W8 _ _ _ (by omega)]; exact h6,?_,?_,by rw [hsz,W8 _ _ _ (by omega)]; exact h8⟩
     ·rw [W8 _ _ _ (by omega),e]
      exact h7.splice off hv
     ·rw [W8 _ _ _ (by omega),e]
      intro v hv'
      unfold splice at hv'
      simp only [List.mem_append] at hv'
      rcases hv' with hv' | hv' | hv'
      ·exact h9 v (List.mem_of_mem_take hv')
      ·exact hone v hv'
      ·exact h9 v (List.mem_of_mem_drop hv')
   ·cases h
  ·cases h
 | _=>simp [W6] at h
theorem g_store (hT:X1 P A) (hR:Rel A.bld A.u8 w0 G st w) {t:TypeId} {td:TD} (ht:P0 t A.tab = some td) {p v:AV} {pv vv:Value} (h:sto td.size st p v = some st') (hp:VR G p pv) (hv:VR G v vv) :
  GivesU P A w0 G (Instr.storeAt t pv vv) w st':=by
 obtain ⟨i,d,hi,hd,hs,_,hk,_⟩:=(hT t td ht).ok
 unfold sto at h
 split at h
 ·rename_i hl
  have hall:v.cells.all AV.isCell = true:=by
   unfold W6 at h
   split at h
   ·split at h
    ·split at h
     ·rename_i hc; exact hc.2.2.2
     ·cases h
    ·cases h
   ·cases h
  obtain ⟨hvs,_⟩:=hv.cells hall
  obtain ⟨b,o,rfl,hst,hR'⟩:=stCells_sound (P:=P) hR h hp hvs
  refine ⟨_,G,?_,Gh.le.refl G,hR'⟩
  have hlen:vv.cells.size = i.size:=by rw [hs,←hl,hvs.len]; simp
  simp [Instr.storeAt,Instr.sureAddr,storeVar,X0 hi,hlen,hst]
 ·cases h
end
end Go.St
namespace Go.St
open Go.RowKit
set_option linter.unusedVariables false
set_option linter.unusedSimpArgs false
section
variable {P:Program} {A:P2} {w0:World} {G:Gh} {st st':Sto} {w:World} {R:Type}
theorem eqGuard_int (op:BinOp) (t:TypeId) (X Y:Operand) (k k':IntKind) (a b:Int):(eqGuard op t X Y (.int k a) (.int k' b)).run P w = .ok () w:=by cases op <;> rfl
theorem eqGuard_str (op:BinOp) (t:TypeId) (X Y:Operand) (a b:ByteArray):(eqGuard op t X Y (.string a) (.string b)).run P w = .ok () w:=by cases op <;> rfl
theorem a0T (a b:ByteArray):(a.toList == b.toList) = decide (a = b):=by
 rw [ByteArray.toList_eq,ByteArray.toList_eq]
 by_cases h:a = b
 ·subst h; simp
 ·have:a.data.toList ≠ b.data.toList:=fun e=>h (by
   obtain ⟨⟨x⟩⟩:=a
   obtain ⟨⟨y⟩⟩:=b
   simp at e
   subst e
   rfl)
  have h2:¬ a.data = b.data:=fun e=>this (by rw [e])
  simp [h,h2]
theorem g_binI {op:BinOp} {k k':IntKind} {a b:Int} {c:AV→Option R} {r:R} (hk:k' = k∨op = .shl∨op = .shr) (h:binI op k a b c = some r) (t:TypeId) (X Y:Operand) :
  ∃ v,c v = some r∧∃ v',(do eqGuard op t X Y (.int k a) (.int k' b); binOp op t (.int k a) (.int k' b)).run P w = .ok v' w∧VR G v v':=by
 simp only [Sem.run_bind,eqGuard_int,Result.andThen_ok]
 have hne:∀ {x y:Int},(x != y) = !decide (x = y):=fun {x y}=>by by_cases h:x = y <;> simp [h]
 have hb:∀ {x y:Sem Value} {j:IntKind},(if j ≠ j then x else y) = y:=fun {x y j}=>if_neg (by simp)
 cases op <;> simp only [binI] at h
 case shl=>
  split at h
  ·cases h
  ·rename_i hb; refine ⟨_,h,_,?_, .int k _⟩; simp only [binOp,Op.shift,if_neg hb]; rfl
 case shr=>
  split at h
  ·cases h
  ·rename_i hb; refine ⟨_,h,_,?_, .int k _⟩; simp only [binOp,Op.shift,if_neg hb]; rfl
 all_goals (obtain rfl:k' = k:=by rcases hk with h | h | h <;> first | exact h | cases h)
 case quo=>
  split at h
  ·cases h
  ·rename_i hz; refine ⟨_,h,_,?_, .int _ _⟩; simp only [binOp,hb,Op.intDiv,if_neg hz]; rfl
 case rem=>
  split at h
  ·cases h
  ·rename_i hz; refine ⟨_,h,_,?_, .int _ _⟩; simp only [binOp,hb,Op.intDiv,if_neg hz]; rfl
 case eql=>refine ⟨_,h,_,by simp only [binOp,hb]; rfl,?_⟩; rw [show (a == b) = decide (a = b) from rfl]; exact .bool _
 case neq=>refine ⟨_,h,_,by simp only [binOp,hb]; rfl,?_⟩; rw [hne]; exact .bool _
 all_goals (refine ⟨_,h,_,by simp only [binOp,hb]; rfl,?_⟩; first | exact .int _ _ | exact .bool _)
theorem g_binS {op:BinOp} {a b:ByteArray} {c:AV→Option R} {r:R} (h:binS op a b c = some r) (t:TypeId) (X Y:Operand) :
  ∃ v,c v = some r∧∃ v',(do eqGuard op t X Y (.string a) (.string b); binOp op t (.string a) (.string b)).run P w = .ok v' w∧VR G v v':=by
 simp only [Sem.run_bind,eqGuard_str,Result.andThen_ok]
 cases op <;> simp only [binS] at h <;> first
  | (cases h; done)
  | (refine ⟨_,h,_,by simp only [binOp,Op.stringOp]; rfl,?_⟩; rw [a0T]; exact .bool _; done)
  | (refine ⟨_,h,_,by simp only [binOp,Op.stringOp]; rfl,?_⟩; rw [a0T,ByteArray.toList_eq,ByteArray.toList_eq]; exact .bool _; done)
  | (refine ⟨_,h,_,by simp only [binOp,Op.stringOp]; rfl,?_⟩; rw [ByteArray.toList_eq,ByteArray.toList_eq]; exact .bool _; done)
  | skip
 split at h
 ·rename_i hs
  refine ⟨_,h,_,?_, .str _⟩
  simp only [binOp,Op.stringOp]
  rw [if_neg (by simp only [IntKind.max,IntKind.signed,IntKind.bits]; simp; omega)]
  rfl
 ·cases h
theorem kb_bool {k:TK} {d:TypeDesc} (h:Q0 k d = true) (hk:ekOf k = .bool):d = .bool:=by cases k <;> cases d <;> simp_all [Q0,ekOf]
theorem kb_ptr {k:TK} {d:TypeDesc} (h:Q0 k d = true) (hk:ekOf k = .ptr):∃ e,d = .pointer e:=by cases k <;> cases d <;> simp_all [Q0,ekOf]
theorem kb_slice {k:TK} {d:TypeDesc} (h:Q0 k d = true) (hk:ekOf k = .slice):∃ e,d = .slice e:=by cases k <;> cases d <;> simp_all [Q0,ekOf]
theorem kb_map {k:TK} {d:TypeDesc} (h:Q0 k d = true) (hk:ekOf k = .map):∃ e f,d = .map e f:=by cases k <;> cases d <;> simp_all [Q0,ekOf]
theorem kb_func {k:TK} {d:TypeDesc} (h:Q0 k d = true) (hk:ekOf k = .func):∃ a b c,d = .func a b c:=by cases k <;> cases d <;> simp_all [Q0,ekOf]
theorem kb_iface {k:TK} {d:TypeDesc} (h:Q0 k d = true) (hk:ekOf k = .iface):∃ a,d = .interface a:=by cases k <;> cases d <;> simp_all [Q0,ekOf]
theorem kb_struct {k:TK} {d:TypeDesc} (h:Q0 k d = true) (hk:ekOf k = .struct):∃ a,d = .struct a:=by cases k <;> cases d <;> simp_all [Q0,ekOf]
def fkB (P:Program) (k:FK) (t:TypeId):Bool:=
 match P.underlying t with
 | some .bool=>k == .b
 | some (.int _)=>k == .i
 | some .string=>k == .s
 | _=>false
def flatB (P:Program):Nat→List FK→List Field→Bool
 | _,[],[]=>true
 | o, k :: ks, f :: fs => f.offset == o && f.name != "_" && fkB P k f.type && flatB P (o + 1) ks fs
 | _,_,_=>false
def eqOkB (P:Program) (t:TypeId) (ks:List FK):Bool:=
 match P.underlying t with
 | some (.struct fs)=>flatB P 0 ks fs.toList && !P.stoodInHeld t && !P.eqGuardType P.depth t
 | _=>false
theorem fkB_agg {k:FK} {t:TypeId} (h:fkB P k t = true):(isAgg t).run P w = .ok false w:=by
 unfold fkB at h
 split at h <;> first | (rename_i hd; simp [isAgg,run_underlying hd]; done) | cases h
theorem fkB_eq {k:FK} {t:TypeId} (h:fkB P k t = true) {a b:AV} {v u:Value} {z:Bool} (hc:eqF k a b = some z) (hva:VR G a v) (hub:VR G b u) (d:Nat):(Op.equalIn (d + 1) t v u).run P w = .ok z w:=by
 unfold fkB at h
 split at h
 ·rename_i hd
  simp only [beq_iff_eq] at h
  subst h
  unfold eqF at hc
  split at hc <;> first | contradiction | skip
  cases hc; cases hva; cases hub
  rw [run_equalIn_bool' w d t _ _ hd]
 ·rename_i hd
  simp only [beq_iff_eq] at h
  subst h
  unfold eqF at hc
  split at hc <;> first | contradiction | skip
  split at hc
  ·rename_i hk
   cases hc; cases hva; cases hub
   subst hk
   rw [run_equalIn_int w d t _ _ _ _ hd]
   rfl
  ·cases hc
 ·rename_i hd
  simp only [beq_iff_eq] at h
  subst h
  unfold eqF at hc
  split at hc <;> first | contradiction | skip
  cases hc; cases hva; cases hub
  rw [run_equalIn_string w d t _ _ hd,a0T]
 ·cases h
theorem eqCells_sound:∀ {ks:List FK} {as bs:List AV} {q:Bool} {o:Nat} {fs:List Field} {xs ys:Array Value} (d:Nat),a0n ks as bs = some q→flatB P o ks fs = true →
  VRs G as (xs.toList.drop o)→VRs G bs (ys.toList.drop o)→(Op.eqFields (d + 1) xs ys fs).run P w = .ok q w:=by
 intro ks
 induction ks with
 | nil=>
  intro as bs q o fs xs ys d h hf hx hy
  cases fs with
  | nil=>
   cases as <;> cases bs <;> simp [a0n] at h
   subst h
   rfl
  | cons f fs=>simp [flatB] at hf
 | cons k ks ih=>
  intro as bs q o fs xs ys d h hf hx hy
  cases as with
  | nil=>cases bs <;> simp [a0n] at h
  | cons a as=>
   cases bs with
   | nil=>simp [a0n] at h
   | cons b bs=>
    cases fs with
    | nil=>simp [flatB] at hf
    | cons f fs=>
     simp only [flatB,Bool.and_eq_true,beq_iff_eq] at hf
     obtain ⟨⟨⟨hoff,hname⟩,hund⟩,hrest⟩:=hf
     obtain ⟨v,vs,hv,hva,hvs⟩:=hx.head
     obtain ⟨u,us,hu,hub,hus⟩:=hy.head
     have hxo:xs[o]? = some v:=by have:=congrArg (fun l=>l[0]?) hv; simpa [List.getElem?_drop] using this
     have hyo:ys[o]? = some u:=by have:=congrArg (fun l=>l[0]?) hu; simpa [List.getElem?_drop] using this
     have hxd:xs.toList.drop (o + 1) = vs:=by rw [←List.drop_drop,hv]; rfl
     have hyd:ys.toList.drop (o + 1) = us:=by rw [←List.drop_drop,hu]; rfl
     simp only [a0n] at h
     cases hc:eqF k a b with
     | none=>simp [hc] at h
     | some z=>
      simp only [hc,Option.bind_some] at h
      have hagg:=fkB_agg (w:=w) hund
      have hcell:=fkB_eq (w:=w) hund hc hva hub d
      have hpx:(part f.type xs f.offset).run P w = .ok v w:=by simp [part,hagg,hoff,hxo]
      have hpy:(part f.type ys f.offset).run P w = .ok u w:=by simp [part,hagg,hoff,hyo]
      simp only [Op.eqFields]
      rw [if_pos (by simpa using hname)]
      simp only [Sem.run_bind,hpx,hpy,hcell,Result.andThen_ok]
      cases z with
      | false=>simp at h; subst h; rfl
      | true=>
       simp only [if_true] at h
       simp only [Bool.not_true,Bool.false_eq_true,if_false]
       exact ih d h hrest (by rw [hxd]; exact hvs) (by rw [hyd]; exact hus)
set_option maxHeartbeats 1600000 in
theorem eqIn_sound {td:TD} {t:TypeId} {d:TypeDesc} (hd:P.underlying t = some d) (hk:Q0 td.k d = true) {ks:List FK} (hks:ks = []∨eqOkB P t ks = true) {lit:Bool} {x y:AV} {xv yv:Value} {q:Bool}
  (h:eqV (ekOf td.k) ks lit x y = some q) (hx:VR G x xv) (hy:VR G y yv) (D:Nat):(Op.equalIn (D + 1 + 1) t xv yv).run P w = .ok q w:=by
 obtain ⟨E,hE⟩:∃ E,E = D + 1:=⟨_,rfl⟩
 rw [←hE]
 unfold eqV at h
 split at h
 ·rename_i hek
  obtain rfl:=kb_bool hk hek
  split at h
  ·cases h; cases hx; cases hy
   rw [run_equalIn_bool' w _ t _ _ hd]
  ·cases h
 ·rename_i hek
  obtain ⟨e,rfl⟩:=kb_ptr hk hek
  split at h <;> first
   | (cases h; cases hx; cases hy; simp [Op.equalIn,run_underlying hd]; done)
   | (cases h; done)
 ·rename_i hek
  obtain ⟨e,rfl⟩:=kb_slice hk hek
  split at h <;> first
   | (cases h; cases hx <;> cases hy <;> simp [Op.equalIn,run_underlying hd]; done)
   | (cases h; done)
 ·rename_i hek
  obtain ⟨e,f,rfl⟩:=kb_map hk hek
  split at h <;> first
   | (cases h; cases hx; cases hy; simp [Op.equalIn,run_underlying hd]; done)
   | (cases h; done)
 ·rename_i hek
  obtain ⟨e,f,g,rfl⟩:=kb_func hk hek
  split at h <;> first
   | (cases h; cases hx; cases hy; simp [Op.equalIn,run_underlying hd]; done)
   | (cases h; done)
 ·rename_i hek
  obtain ⟨e,rfl⟩:=kb_iface hk hek
  split at h
  ·split at h
   ·cases h; cases hx; cases hy; simp [Op.equalIn,run_underlying hd]
   ·cases h
  ·cases h; cases hx; cases hy; simp [Op.equalIn,run_underlying hd]
  ·cases h; cases hx; cases hy; simp [Op.equalIn,run_underlying hd]
  ·cases h
 ·rename_i hek
  obtain ⟨fs,rfl⟩:=kb_struct hk hek
  split at h
  ·split at h
   ·cases h
   ·rename_i hne
    rcases hks with hks | hks
    ·exact absurd hks hne
    ·unfold eqOkB at hks
     simp only [hd,Bool.and_eq_true,Bool.not_eq_true'] at hks
     cases hx with
     | agg as xs hx hx'=>
      cases hy with
      | agg bs ys hy hy'=>
       have hfo:P.fieldsOf t = fs:=by simp [Program.fieldsOf,hd]
       rw [hE,run_equalIn_struct w (D + 1) t xs ys (by rw [hfo]; exact hd) hks.1.2,hfo]
       exact eqCells_sound D h hks.1.1 ⟨by simpa using hx,fun j a v ha hv=>hx' j a v ha (by simpa using hv)⟩ ⟨by simpa using hy,fun j a v ha hv=>hy' j a v ha (by simpa using hv)⟩
  ·cases h
 ·cases h
theorem g_eqV {td:TD} {t:TypeId} {d:TypeDesc} (hd:P.underlying t = some d) (hk:Q0 td.k d = true) {ks:List FK} (hks:ks = []∨eqOkB P t ks = true) {x y:AV} {xv yv:Value} {q:Bool} {X Y:Operand}
  (h:eqV (ekOf td.k) ks (R6 X || R6 Y) x y = some q) (hx:VR G x xv) (hy:VR G y yv) {op:BinOp} (hop:op = .eql∨op = .neq) :
  (do eqGuard op t X Y xv yv; binOp op t xv yv).run P w = .ok (.bool (if op = .eql then q else !q)) w:=by
 have hE:(Op.equal t xv yv).run P w = .ok q w:=eqIn_sound hd hk hks h hx hy 9998
 have hG:(eqGuard op t X Y xv yv).run P w = .ok () w:=by
  by_cases h1:xv = .nilIface∧yv = .nilIface
  ·obtain ⟨rfl,rfl⟩:=h1
   have hl:(R6 X || R6 Y) = true:=by
    cases hx <;> cases hy <;> unfold eqV at h <;> split at h <;> simp_all
   clear h hE
   rcases hop with rfl | rfl <;> cases X <;> cases Y <;> first | rfl | (simp [R6] at hl; done)
  ·by_cases h2:∃ u v,xv = .agg u∧yv = .agg v
   ·obtain ⟨u,v,rfl,rfl⟩:=h2
    have hm:P.eqGuardType P.depth t = false:=by
     have hek:ekOf td.k = .struct∧ks ≠ []:=by
      cases hx <;> cases hy <;> (unfold eqV at h; split at h <;> first | (simp at h; done) | skip) <;> (rename_i hek; refine ⟨hek,fun e=>?_⟩; simp [e] at h)
     obtain ⟨hek,hne⟩:=hek
     obtain ⟨fs,rfl⟩:=kb_struct hk hek
     rcases hks with hks | hks
     ·exact absurd hks hne
     ·unfold eqOkB at hks
      simp only [hd,Bool.and_eq_true,Bool.not_eq_true'] at hks
      exact hks.2
    exact run_eqGuard_agg w op t X Y u v hm
   ·cases xv <;> cases yv <;> first
     | (rcases hop with rfl | rfl <;> rfl)
     | (exfalso; exact h1 ⟨rfl,rfl⟩)
     | (exfalso; exact h2 ⟨_,_,rfl,rfl⟩)
 simp only [Sem.run_bind,hG,Result.andThen_ok]
 have hni:∀ k a k' b,¬ (xv = .int k a∧yv = .int k' b):=by
  rintro k a k' b ⟨rfl,rfl⟩
  cases hx <;> cases hy <;> unfold eqV at h <;> split at h <;> simp at h
 have hns:∀ a b,¬ (xv = .string a∧yv = .string b):=by
  rintro a b ⟨rfl,rfl⟩
  cases hx <;> cases hy <;> unfold eqV at h <;> split at h <;> simp at h
 have hnf:∀ k a k' b,¬ (xv = .float k a∧yv = .float k' b):=by
  rintro k a k' b ⟨rfl,rfl⟩
  cases hx <;> cases hy <;> unfold eqV at h <;> split at h <;> simp at h
 have hnc:∀ k a c k' b e,¬ (xv = .complex k a c∧yv = .complex k' b e):=by
  rintro k a c k' b e ⟨rfl,rfl⟩
  cases hx <;> cases hy <;> unfold eqV at h <;> split at h <;> simp at h
 rcases hop with rfl | rfl
 ·have e:binOp .eql t xv yv = (do pure (.bool (←Op.equal t xv yv)):Sem Value):=by
   cases xv <;> cases yv <;> first
    | rfl
    | (exfalso; exact hni _ _ _ _ ⟨rfl,rfl⟩)
    | (exfalso; exact hns _ _ ⟨rfl,rfl⟩)
    | (exfalso; exact hnf _ _ _ _ ⟨rfl,rfl⟩)
    | (exfalso; exact hnc _ _ _ _ _ _ ⟨rfl,rfl⟩)
  rw [e]
  simp [hE]
 ·have e:binOp .neq t xv yv = (do pure (.bool (!(←Op.equal t xv yv))):Sem Value):=by
   cases xv <;> cases yv <;> first
    | rfl
    | (exfalso; exact hni _ _ _ _ ⟨rfl,rfl⟩)
    | (exfalso; exact hns _ _ ⟨rfl,rfl⟩)
    | (exfalso; exact hnf _ _ _ _ ⟨rfl,rfl⟩)
    | (exfalso; exact hnc _ _ _ _ _ _ ⟨rfl,rfl⟩)
  rw [e]
  simp [hE]
end
end Go.St
namespace Go.St
open Go.RowKit
set_option linter.unusedVariables false
set_option linter.unusedSimpArgs false
section
variable {P:Program} {A:P2} {w0:World} {G:Gh} {st st':Sto} {w:World} {R:Type}
theorem a3U {fs:List (Nat × TypeId)} {d:TypeDesc} (h:Q0 (.struct fs) d = true):∃ l,d = .struct l∧fieldsB fs l.toList = true:=by
 cases d <;> simp_all [Q0]
theorem Z1 {e:TypeId} {d:TypeDesc} (h:Q0 (.slice e) d = true):d = .slice e:=by cases d <;> simp_all [Q0]
theorem kk_arr {n:Nat} {e:TypeId} {d:TypeDesc} (h:Q0 (.arr n e) d = true):d = .array n e:=by cases d <;> simp_all [Q0]
theorem a2s {d:TypeDesc} (h:Q0 .str d = true):d = .string:=by cases d <;> simp_all [Q0]
theorem kk_int {k:IntKind} {d:TypeDesc} (h:Q0 (.int k) d = true):d = .int k:=by cases d <;> simp_all [Q0]
theorem kk_map {k e:TypeId} {d:TypeDesc} (h:Q0 (.map k e) d = true):d = .map k e:=by cases d <;> simp_all [Q0]
theorem fields_at:∀ {fs:List (Nat × TypeId)} {l:List Field} {j:Nat} {x:Nat × TypeId},fieldsB fs l = true→fs[j]? = some x→∃ f,l[j]? = some f∧f.offset = x.1∧f.type = x.2:=by
 intro fs
 induction fs with
 | nil=>intro l j x h hx; simp at hx
 | cons y r ih=>
  intro l j x h hx
  cases l with
  | nil=>simp [fieldsB] at h
  | cons f l=>
   simp only [fieldsB,Bool.and_eq_true,beq_iff_eq] at h
   cases j with
   | zero=>simp at hx; subst hx; exact ⟨f,rfl,h.1.1.symm,h.1.2.symm⟩
   | succ j=>obtain ⟨g,hg⟩:=ih h.2 (by simpa using hx); exact ⟨g,by simpa using hg.1,hg.2⟩
theorem VR.ptr_ip {cs:List AV} {v:Value} (h:VR G (.ip cs) v) {off n:Nat} (hn:off + n ≤ cs.length):∃ b o,v = .pointer (some ⟨b,o,none⟩)∧VR G (.ip ((cs.drop off).take n)) (.pointer (some ⟨b,o + off,none⟩)):=by
 cases h with
 | ip _ b o l hH hl hh=>
  refine ⟨b,o,rfl, .ip _ b (o + off) l hH (by simp; omega) fun j a v ha hv=>?_⟩
  rw [List.getElem?_take] at ha
  split at ha
  ·rw [List.getElem?_drop] at ha
   exact hh (off + j) a v ha (by rw [←hv]; congr 1; omega)
  ·cases ha
theorem g_fieldAddr (hT:X1 P A) (hR:Rel A.bld A.u8 w0 G st w) {s:TypeId} {p v:AV} {pv:Value} {f:Nat} (h:fieldAddr A s p f = some v) (hp:VR G p pv):P5 P A w0 G (Instr.fieldAt s pv f) w v st:=by
 unfold fieldAddr at h
 cases hs:P0 s A.tab with
 | none=>simp [hs] at h
 | some td=>
  simp only [hs,Option.bind_some] at h
  obtain ⟨i,d,hi,hd,_,_,hk,_⟩:=(hT s td hs).ok
  split at h
  ·rename_i fs hfs
   rw [hfs] at hk
   obtain ⟨l,rfl,hl⟩:=a3U hk
   cases hx:fs[f]? with
   | none=>simp [hx] at h
   | some x=>
    simp only [hx,Option.bind_some] at h
    obtain ⟨fl,hfl,ho,hty⟩:=fields_at hl hx
    cases ht:P0 x.2 A.tab with
    | none=>simp [ht] at h
    | some tf=>
     simp only [ht,Option.bind_some] at h
     obtain ⟨i2,d2,hi2,hd2,hs2,_,hk2,_⟩:=(hT x.2 tf ht).ok
     split at h
     ·cases h
     ·rename_i hsz
      have hfl':l[f]? = some fl:=by rw [←Array.getElem?_toList]; exact hfl
      have hplace:∀ b o,(fieldPlace ⟨b,o,none⟩ fl).run P w = .ok ⟨b,o + x.1,none⟩ w:=by
       intro b o
       rw [hty.symm] at hi2
       simp [fieldPlace,X0 hi2,hs2,hsz,ho,add_lit]
      unfold fa at h
      split at h
      ·split at h
       ·rename_i hn
        cases h
        obtain ⟨b,o,rfl,hv⟩:=hp.ptr_ip hn
        exact P5.same hR (by simp [Instr.fieldAt,run_underlying hd,hfl',Instr.sureAddr,hplace]) hv
       ·cases h
      ·cases h
       cases hp with
       | mp _ _ _ b o hρ=>
        refine P5.same hR (v' := .pointer (some ⟨b,o + (_ + x.1),none⟩)) ?_ (.mp _ _ _ b o hρ)
        simp [Instr.fieldAt,run_underlying hd,hfl',Instr.sureAddr,hplace,Nat.add_assoc]
      ·cases h
  ·cases h
theorem r_part {tf:TD} {t:TypeId} {i:TypeInfo} {d:TypeDesc} (hi:P.info? t = some i) (hd:P.underlying t = some d) (hs:i.size = tf.size) (hk:Q0 tf.k d = true) {cs:List AV} {xs:Array Value} {off:Nat} {v:AV}
  (h:partA tf.isAgg tf.size cs off = some v) (hl:cs.length = xs.size) (hv:∀ (j:Nat) (a:AV) (u:Value),cs[j]? = some a→xs[j]? = some u→VR G a u) :
  ∃ u,(part t xs off).run P w = .ok u w∧VR G v u:=by
 unfold partA at h
 split at h
 ·rename_i hag
  split at h
  ·rename_i hn
   cases h
   refine ⟨.agg (xs.extract off (off + tf.size)),by simp [part,a2m hd hk,hag,X0 hi,hs], .agg _ _ (by simp; omega) fun j a u ha hu=>?_⟩
   rw [List.getElem?_take] at ha
   split at ha
   ·rename_i hj
    rw [List.getElem?_drop] at ha
    refine hv (off + j) a u ha ?_
    rw [Array.getElem?_extract] at hu
    split at hu
    ·exact hu
    ·cases hu
   ·cases ha
  ·cases h
 ·rename_i hag
  have hj:off < cs.length:=(List.getElem?_eq_some_iff.1 h).1
  have hj':off < xs.size:=by omega
  refine ⟨xs[off],?_,hv off v _ h (Array.getElem?_eq_getElem hj')⟩
  simp [part,a2m hd hk,hag,hj']
theorem g_field (hT:X1 P A) (hR:Rel A.bld A.u8 w0 G st w) {s:TypeId} {x v:AV} {xv:Value} {f:Nat} (h:field A s x f = some v) (hx:VR G x xv):P5 P A w0 G (Instr.field s xv f) w v st:=by
 unfold field at h
 cases hs:P0 s A.tab with
 | none=>simp [hs] at h
 | some td=>
  simp only [hs,Option.bind_some] at h
  obtain ⟨i,d,hi,hd,_,_,hk,_⟩:=(hT s td hs).ok
  split at h
  ·rename_i fs hfs
   rw [hfs] at hk
   obtain ⟨l,rfl,hl⟩:=a3U hk
   cases hy:fs[f]? with
   | none=>simp [hy] at h
   | some y=>
    simp only [hy,Option.bind_some] at h
    obtain ⟨fl,hfl,ho,hty⟩:=fields_at hl hy
    cases ht:P0 y.2 A.tab with
    | none=>simp [ht] at h
    | some tf=>
     simp only [ht,Option.bind_some] at h
     obtain ⟨i2,d2,hi2,hd2,hs2,_,hk2,_⟩:=(hT y.2 tf ht).ok
     have hfl':l[f]? = some fl:=by rw [←Array.getElem?_toList]; exact hfl
     unfold fieldOf at h
     split at h
     ·rename_i cs
      cases hx with
      | agg _ xs hl2 hv=>
       obtain ⟨u,hu,hvu⟩:=r_part (w:=w) hi2 hd2 hs2 hk2 h hl2 hv
       rw [←hty,←ho] at hu
       exact P5.same hR (by simp [Instr.field,run_underlying hd,hfl',asAgg,hu]) hvu
     ·cases h
  ·cases h
theorem a0R {i:Int} {n j:Nat} (h:idx i n = some j):0 ≤ i∧i < n∧j = i.toNat∧j < n:=by
 unfold idx at h
 split at h
 ·rename_i hc; cases h; exact ⟨hc.1,hc.2,rfl,by omega⟩
 ·cases h
theorem g_indexAddr (hT:X1 P A) (hR:Rel A.bld A.u8 w0 G st w) {t:TypeId} {x i v:AV} {xv iv:Value} (h:indexAddr A t x i = some v) (hx:VR G x xv) (hi:VR G i iv):P5 P A w0 G (Instr.indexAt t xv iv) w v st:=by
 unfold indexAddr at h
 cases hs:P0 t A.tab with
 | none=>simp [hs] at h
 | some td=>
  simp only [hs,Option.bind_some] at h
  obtain ⟨_,d,_,hd,_,_,hk,_⟩:=(hT t td hs).ok
  split at h
  ·rename_i e he
   rw [he] at hk
   obtain rfl:=Z1 hk
   cases ht:P0 e A.tab with
   | none=>simp [ht] at h
   | some te=>
    simp only [ht,Option.bind_some] at h
    obtain ⟨i2,d2,hi2,hd2,hs2,_,hk2,_⟩:=(hT e te ht).ok
    unfold ia at h
    split at h
    ·rename_i row len tok ik n
     cases hi
     cases hj:idx n len with
     | none=>simp [hj] at h
     | some j=>
      simp only [hj,Option.bind_some] at h
      obtain ⟨h0,h1,rfl,h2⟩:=a0R hj
      split at h
      ·rename_i hn
       cases h
       cases hx with
       | is0 a cap=>exfalso; omega
       | is _ _ _ b o cap l hH hl hc htk hh h1'=>
        refine P5.same hR (v' := .pointer (some ⟨b,o + n.toNat * te.size,none⟩)) ?_ (.ip _ b (o + n.toNat * te.size) l hH (by simp; rw [Nat.add_mul,Nat.one_mul] at hn; omega) fun j a v ha hv=>?_)
        ·simp [Instr.indexAt,asIntOf,run_underlying hd,h0,h1,X0 hi2,hs2,add_lit]
        ·rw [List.getElem?_take] at ha
         split at ha
         ·rw [List.getElem?_drop] at ha
          exact hh _ a v ha (by rw [←hv]; congr 1; omega)
         ·cases ha
      ·cases h
    ·rename_i id g off len es ik n
     cases hi
     split at h
     ·rename_i hes
      subst hes
      cases hj:idx n len with
      | none=>simp [hj] at h
      | some j=>
       simp only [hj,Option.bind_some] at h
       cases h
       obtain ⟨h0,h1,rfl,h2⟩:=a0R hj
       cases hx with
       | ms _ _ _ _ _ b o cap a hρ hc ha=>
        rcases ha with ha | ⟨rfl,_⟩
        ·omega
        ·refine P5.same hR (v' := .pointer (some ⟨b,o + (off + n.toNat * te.size),none⟩)) ?_ (.mp _ _ _ b o hρ)
         simp [Instr.indexAt,asIntOf,run_underlying hd,h0,h1,X0 hi2,hs2,add_lit,Nat.add_assoc]
     ·cases h
    ·cases h
  ·rename_i n e he
   rw [he] at hk
   obtain rfl:=kk_arr hk
   cases ht:P0 e A.tab with
   | none=>simp [ht] at h
   | some te=>
    simp only [ht,Option.bind_some] at h
    obtain ⟨i2,d2,hi2,hd2,hs2,_,hk2,_⟩:=(hT e te ht).ok
    unfold a03 at h
    split at h
    ·rename_i cs ik m
     cases hi
     cases hj:idx m n with
     | none=>simp [hj] at h
     | some j=>
      simp only [hj,Option.bind_some] at h
      obtain ⟨h0,h1,rfl,h2⟩:=a0R hj
      split at h
      ·rename_i hn
       cases h
       obtain ⟨b,o,rfl,hv⟩:=hx.ptr_ip (off:=m.toNat * te.size) (n:=te.size) (by rw [Nat.add_mul,Nat.one_mul] at hn; omega)
       exact P5.same hR (by simp [Instr.indexAt,asIntOf,run_underlying hd,Instr.sureAddr,h0,h1,X0 hi2,hs2,add_lit]) hv
      ·cases h
    ·rename_i id g off ik m
     cases hi
     cases hj:idx m n with
     | none=>simp [hj] at h
     | some j=>
      simp only [hj,Option.bind_some] at h
      cases h
      obtain ⟨h0,h1,rfl,h2⟩:=a0R hj
      cases hx with
      | mp _ _ _ b o hρ=>
       refine P5.same hR (v' := .pointer (some ⟨b,o + (off + m.toNat * te.size),none⟩)) ?_ (.mp _ _ _ b o hρ)
       simp [Instr.indexAt,asIntOf,run_underlying hd,Instr.sureAddr,h0,h1,X0 hi2,hs2,add_lit,Nat.add_assoc]
    ·cases h
  ·cases h
theorem g_index (hT:X1 P A) (hR:Rel A.bld A.u8 w0 G st w) {t:TypeId} {x i:AV} {xv iv:Value} {c:AV→Option R} {r:R} (h:a3h A t x i c = some r) (hx:VR G x xv) (hi:VR G i iv) :
  ∃ v,c v = some r∧P5 P A w0 G (Instr.index t xv iv) w v st:=by
 unfold a3h at h
 cases hs:P0 t A.tab with
 | none=>simp [hs] at h
 | some td=>
  simp only [hs,Option.bind_some] at h
  obtain ⟨_,d,_,hd,_,_,hk,_⟩:=(hT t td hs).ok
  split at h
  ·rename_i he
   rw [he] at hk
   obtain rfl:=a2s hk
   unfold asS asInt at h
   split at h
   ·rename_i s
    simp only [Option.bind_some] at h
    split at h
    ·rename_i ik n
     simp only [Option.bind_some] at h
     cases hj:idx n s.size with
     | none=>simp [hj] at h
     | some j=>
      simp only [hj,Option.bind_some] at h
      obtain ⟨h0,h1,rfl,h2⟩:=a0R hj
      cases hx; cases hi
      refine ⟨_,h,P5.same hR (v' := .int .u8 (s.get! n.toNat).toNat) ?_ (.int _ _)⟩
      have hg:s[n.toNat]? = some (s.get! n.toNat):=by
       rw [getElem?_pos s n.toNat h2]
       congr 1
       show s.data[n.toNat] = s.data[n.toNat]!
       rw [getElem!_pos]
      simp [Instr.index,asIntOf,run_underlying hd,h0,hg]
    ·simp at h
   ·simp at h
  ·rename_i n e he
   rw [he] at hk
   obtain rfl:=kk_arr hk
   cases ht:P0 e A.tab with
   | none=>simp [ht] at h
   | some te=>
    simp only [ht,Option.bind_some] at h
    obtain ⟨i2,d2,hi2,hd2,hs2,_,hk2,_⟩:=(hT e te ht).ok
    unfold ixArr at h
    split at h
    ·rename_i cs ik m
     cases hi
     cases hj:idx m n with
     | none=>simp [hj] at h
     | some j=>
      simp only [hj,Option.bind_some] at h
      obtain ⟨h0,h1,rfl,h2⟩:=a0R hj
      cases hx with
      | agg _ xs hl hv=>
       cases hp:partA te.isAgg te.size cs (m.toNat * te.size) with
       | none=>simp [hp] at h
       | some v=>
        simp only [hp,Option.bind_some] at h
        obtain ⟨u,hu,hvu⟩:=r_part (w:=w) hi2 hd2 hs2 hk2 hp hl hv
        exact ⟨v,h,P5.same hR (by simp [Instr.index,asIntOf,run_underlying hd,h0,h1,X0 hi2,hs2,hu]) hvu⟩
    ·simp at h
  ·cases h
def OVR (G:Gh) (x:Option AV) (v:Option Value):Prop:=(x = none∧v = none)∨∃ a u,x = some a∧v = some u∧VR G a u
theorem bnd_some {d most h:Nat} {x:Option AV} {xv:Option Value} (hb:bnd d most x = some h) (hx:OVR G x xv) :
  (x = none∧xv = none∧h = d)∨∃ k i,xv = some (.int k i)∧x ≠ none∧0 ≤ i∧i ≤ most∧h = i.toNat∧h ≤ most:=by
 rcases hx with ⟨rfl,rfl⟩ | ⟨a,u,rfl,rfl,hx⟩
 ·simp only [bnd,Option.some.injEq] at hb
  exact .inl ⟨rfl,rfl,hb.symm⟩
 ·cases a with
  | int k i=>
   cases hx
   simp only [bnd] at hb
   by_cases hc:0 ≤ i∧i ≤ most
   ·rw [if_pos hc] at hb
    cases hb
    exact .inr ⟨k,i,rfl,by simp,hc.1,hc.2,rfl,by omega⟩
   ·rw [if_neg hc] at hb; cases hb
  | _=>simp [bnd] at hb
theorem a0U {len most cap h l:Nat} {b:Bool} {lo hi:Option AV} {lov hiv:Option Value} (hcap:most ≤ cap) (hlm:len ≤ most) (hh:bnd len most hi = some h) (hl:bnd 0 h lo = some l) (hlo:OVR G lo lov) (hhi:OVR G hi hiv) :
  (Instr.sliceBounds b len cap lov hiv none).run P w = .ok (l,h,cap) w∧l ≤ h∧h ≤ most:=by
 have h1:=bnd_some hh hhi
 have h2:=bnd_some hl hlo
 rcases h1 with ⟨rfl,rfl,rfl⟩ | ⟨k,i,rfl,hne,i0,i1,rfl,i2⟩ <;> rcases h2 with ⟨rfl,rfl,rfl⟩ | ⟨k',i',rfl,hne',i0',i1',rfl,i2'⟩
 ·exact ⟨by simp [Instr.sliceBounds],by omega,by omega⟩
 ·exact ⟨by simp [Instr.sliceBounds,Instr.sliceBound,asIntOf,i0',i1'],by omega,by omega⟩
 ·have hc:i ≤ (cap:Int):=by omega
  exact ⟨by simp [Instr.sliceBounds,Instr.sliceBound,asIntOf,i0,hc],by omega,by omega⟩
 ·have hc:i ≤ (cap:Int):=by omega
  have hc':i' ≤ i:=by omega
  exact ⟨by simp [Instr.sliceBounds,Instr.sliceBound,asIntOf,i0,hc,i0',hc',Int.max_eq_left i0],by omega,by omega⟩
end
end Go.St
namespace Go.St
open Go.RowKit
set_option linter.unusedVariables false
set_option linter.unusedSimpArgs false
section
variable {P:Program} {A:P2} {w0:World} {G:Gh} {st st':Sto} {w:World} {R:Type}
theorem TokR.most {tok:Tok} {row len b o cap:Nat} (ht:TokR G tok row len b o cap) (hc:len ≤ cap):len ≤ tok.most len∧tok.most len ≤ cap:=by
 cases tok with
 | cut n=>exact ht
 | _=>exact ⟨Nat.le_refl _,hc⟩
theorem TokR.part {tok:Tok} {row len b o cap sz l h:Nat} (ht:TokR G tok row len b o cap) (hrow:row = tok.most len * sz) (hl:l ≤ h) (hh:h ≤ tok.most len) (hc:len ≤ cap) :
  TokR G (tok.part len h l) (row - l * sz) (h - l) b (o + l * sz) (cap - l):=by
 have key:∀ t:Tok,h ≤ len→(h = len→TokR G t (row - l * sz) (h - l) b (o + l * sz) (cap - l))→TokR G (if h = len then t else .cut (len - l)) (row - l * sz) (h - l) b (o + l * sz) (cap - l):=by
  intro t h1 h2
  split
  ·rename_i he; exact h2 he
  ·exact ⟨by omega,by omega⟩
 cases tok with
 | cut n=>
  simp only [Tok.most] at hh
  obtain ⟨h1,h2⟩:=ht
  exact ⟨by omega,by omega⟩
 | no=>exact key .no hh fun _=>trivial
 | full=>exact key .full hh fun he=>by simp only [TokR] at ht ⊢; omega
 | tip i g es=>
  refine key (.tip i g es) hh fun he=>?_
  simp only [Tok.most] at hrow hh
  obtain ⟨hk,ht⟩:=ht
  subst he
  refine ⟨hk,?_⟩
  rcases ht with ht | ⟨h1,h2,n,h3,h4⟩
  ·exact .inl (by omega)
  ·by_cases h0:h = 0
   ·subst h0
    have:l = 0:=by omega
    subst this
    exact .inr ⟨by simpa [hrow] using h1,by simp [hrow],n,h3,by simpa using h4⟩
   ·have he:es = sz:=Nat.eq_of_mul_eq_mul_left (by omega) (h2.symm.trans hrow)
    subst he
    have hm:=Nat.mul_le_mul_right es hl
    refine .inr ⟨?_,by rw [Nat.sub_mul]; omega,n,h3,?_⟩
    ·rw [h1,hrow]
     congr 2
     omega
    ·rw [Nat.sub_mul]
     have:=Nat.mul_le_mul_right es (show l ≤ cap by omega)
     omega
theorem g_slice (hT:X1 P A) (hR:Rel A.bld A.u8 w0 G st w) {t:TypeId} {x:AV} {xv:Value} {lo hi mx:Option AV} {lov hiv mxv:Option Value} {c:AV→Option R} {r:R} (h:a3g A t x lo hi mx st c = some r)
  (hx:VR G x xv) (hlo:OVR G lo lov) (hhi:OVR G hi hiv) (hmx:OVR G mx mxv):∃ v,c v = some r∧P5 P A w0 G (Instr.sliceAt t xv lov hiv mxv) w v st:=by
 unfold a3g at h
 split at h
 ·cases h
 ·rcases hmx with ⟨_,rfl⟩ | ⟨_,_,hm,_⟩
  ·cases hs:P0 t A.tab with
   | none=>simp [hs] at h
   | some td=>
    simp only [hs,Option.bind_some] at h
    obtain ⟨_,d,_,hd,_,_,hk,_⟩:=(hT t td hs).ok
    split at h
    ·rename_i he
     rw [he] at hk
     obtain rfl:=a2s hk
     cases x with
     | str s=>
      simp only [asS,Option.bind_some] at h
      cases hh:bnd s.size s.size hi with
      | none=>simp [hh] at h
      | some hn=>
       simp only [hh,Option.bind_some] at h
       cases hl:bnd 0 hn lo with
       | none=>simp [hl] at h
       | some ln=>
        simp only [hl,Option.bind_some] at h
        cases hx
        obtain ⟨hb,_,_⟩:=a0U (P:=P) (w:=w) (b:=false) (Nat.le_refl _) (Nat.le_refl _) hh hl hlo hhi
        exact ⟨_,h,P5.same hR (by simp [Instr.sliceAt,Instr.slice,run_underlying hd,hb]) (.str _)⟩
     | _=>simp [asS] at h
    ·rename_i e he
     rw [he] at hk
     obtain rfl:=Z1 hk
     cases ht:P0 e A.tab with
     | none=>simp [ht] at h
     | some te=>
      simp only [ht,Option.bind_some] at h
      obtain ⟨i2,d2,hi2,hd2,hs2,_,hk2,_⟩:=(hT e te ht).ok
      cases hc:a06 te.size x lo hi with
      | none=>simp [hc] at h
      | some v=>
       simp only [hc,Option.bind_some] at h
       refine ⟨v,h,?_⟩
       unfold a06 at hc
       split at hc
       ·cases hh:bnd 0 0 hi with
        | none=>simp [hh] at hc
        | some hn=>
         simp only [hh,Option.bind_some] at hc
         cases hl:bnd 0 hn lo with
         | none=>simp [hl] at hc
         | some ln=>
          simp only [hl,Option.bind_some,Option.some.injEq] at hc
          subst hc
          cases hx
          obtain ⟨hb,h1,h2⟩:=a0U (P:=P) (w:=w) (b:=true) (Nat.le_refl _) (Nat.le_refl _) hh hl hlo hhi
          have e1:hn = 0:=by omega
          have e2:ln = 0:=by omega
          subst e1; subst e2
          exact P5.same hR (v' := .slice none 0 0) (by simp [Instr.sliceAt,Instr.slice,run_underlying hd,hb,X0 hi2]) .nils
       ·rename_i row len tok
        cases hh:bnd len (tok.most len) hi with
        | none=>simp [hh] at hc
        | some hn=>
         simp only [hh,Option.bind_some] at hc
         cases hl:bnd 0 hn lo with
         | none=>simp [hl] at hc
         | some ln=>
          simp only [hl,Option.bind_some] at hc
          split at hc
          ·rename_i hrl
           simp only [Option.some.injEq] at hc
           subst hc
           cases hx with
           | is0 a cap=>
            obtain ⟨hb,h1,h2⟩:=a0U (P:=P) (w:=w) (b:=true) (Nat.zero_le cap) (Nat.le_refl _) hh hl hlo hhi
            have e1:hn = 0:=by omega
            have e2:ln = 0:=by omega
            subst e1; subst e2
            by_cases hcl:cap = 0
            ·subst hcl
             refine P5.same hR (v' := .slice (some a) 0 0) (by simp [Instr.sliceAt,Instr.slice,run_underlying hd,hb,X0 hi2]) ?_
             simpa [Tok.part] using VR.is0 a 0
            ·refine P5.same hR (v' := .slice (some (a.add 0)) 0 cap) (by simp [Instr.sliceAt,Instr.slice,run_underlying hd,hb,X0 hi2,hcl,hs2,Ne.symm hcl]) ?_
             simpa [Tok.part] using VR.is0 (a.add 0) cap
           | is _ _ _ b o cap l hH hlen hcap htk hcell hone=>
            obtain ⟨hm1,hm2⟩:=htk.most hcap
            obtain ⟨hb,h1,h2⟩:=a0U (P:=P) (w:=w) (b:=true) hm2 hm1 hh hl hlo hhi
            have hp:=htk.part hrl h1 h2 hcap
            have hd3:(row.drop (ln * te.size)).length = row.length - ln * te.size:=by simp
            have hm3:ln * te.size ≤ row.length:=by rw [hrl]; exact Nat.mul_le_mul_right _ (by omega)
            by_cases hcl:cap = ln
            ·subst hcl
             refine P5.same hR (v' := .slice (some ⟨b,o,none⟩) (hn - cap) (cap - cap)) (by simp [Instr.sliceAt,Instr.slice,run_underlying hd,hb,X0 hi2]) ?_
             have e1:tok.most len = cap:=by omega
             have hz:row.length - cap * te.size = 0:=by rw [hrl,e1]; omega
             have hnil:row.drop (cap * te.size) = []:=List.eq_nil_of_length_eq_zero (by rw [hd3,hz])
             rw [hnil]
             refine .is [] _ _ b o _ l hH (by simp; omega) (by omega) ?_ (fun j a v ha _=>by simp at ha) (fun j v hj _=>by simp at hj)
             cases tok with
             | cut n=>
              simp only [Tok.most] at e1
              exact ⟨by omega,by omega⟩
             | _=>
              simp only [Tok.most] at e1
              simp only [Tok.part]
              rw [if_pos (by omega)]
              first | trivial | (simp only [TokR]; omega) | exact ⟨htk.1, .inl (by omega)⟩
            ·refine P5.same hR (v' := .slice (some ⟨b,o + ln * te.size,none⟩) (hn - ln) (cap - ln)) (by simp [Instr.sliceAt,Instr.slice,run_underlying hd,hb,X0 hi2,hcl,hs2,add_lit]) ?_
             refine .is _ _ _ b _ _ l hH (by rw [hd3]; omega) (by omega) (by rw [hd3]; exact hp) (fun j a v ha hv=>?_) (fun j v hj hv=>hone (ln * te.size + j) v (by rw [hd3] at hj; omega) (by rw [←hv]; congr 1; omega))
             rw [List.getElem?_drop] at ha
             exact hcell _ a v ha (by rw [←hv]; congr 1; omega)
          ·cases hc
       ·rename_i id g off len es
        cases hh:bnd len len hi with
        | none=>simp [hh] at hc
        | some hn=>
         simp only [hh,Option.bind_some] at hc
         cases hl:bnd 0 hn lo with
         | none=>simp [hl] at hc
         | some ln=>
          simp only [hl,Option.bind_some] at hc
          split at hc
          ·rename_i hes
           subst hes
           simp only [Option.some.injEq] at hc
           subst hc
           cases hx with
           | ms _ _ _ _ _ b o cap a hρ hcap ha=>
            obtain ⟨hb,h1,h2⟩:=a0U (P:=P) (w:=w) (b:=true) hcap (Nat.le_refl _) hh hl hlo hhi
            by_cases hcl:cap = ln
            ·subst hcl
             refine P5.same hR (v' := .slice (some a) (hn - cap) (cap - cap)) (by simp [Instr.sliceAt,Instr.slice,run_underlying hd,hb,X0 hi2]) ?_
             exact .ms id g _ _ _ b o _ a hρ (by omega) (.inl (by omega))
            ·rcases ha with ha | ⟨rfl,n,hn1,hn2⟩
             ·omega
             ·refine P5.same hR (v' := .slice (some ⟨b,o + off + ln * te.size,none⟩) (hn - ln) (cap - ln)) (by simp [Instr.sliceAt,Instr.slice,run_underlying hd,hb,X0 hi2,hcl,hs2,add_lit]) ?_
              refine .ms id g _ _ _ b o _ _ hρ (by omega) (.inr ⟨by rw [Nat.add_assoc],n,hn1,?_⟩)
              have:(cap - ln) * te.size = cap * te.size - ln * te.size:=Nat.sub_mul _ _ _
              have:=Nat.mul_le_mul_right te.size (show ln ≤ cap by omega)
              omega
          ·cases hc
       ·cases hc
    ·rename_i n e he
     rw [he] at hk
     obtain rfl:=kk_arr hk
     cases ht:P0 e A.tab with
     | none=>simp [ht] at h
     | some te=>
      simp only [ht,Option.bind_some] at h
      obtain ⟨i2,d2,hi2,hd2,hs2,_,hk2,_⟩:=(hT e te ht).ok
      cases hc:arrCut n te.size x lo hi st with
      | none=>simp [hc] at h
      | some v=>
       simp only [hc,Option.bind_some] at h
       refine ⟨v,h,?_⟩
       unfold arrCut at hc
       split at hc
       ·rename_i id g off
        split at hc
        ·rename_i g' cs fz hst
         split at hc
         ·rename_i hcond
          obtain ⟨rfl,hcl⟩:=hcond
          cases hh:bnd n n hi with
          | none=>simp [hh] at hc
          | some hn=>
           simp only [hh,Option.bind_some] at hc
           cases hl:bnd 0 hn lo with
           | none=>simp [hl] at hc
           | some ln=>
            simp only [hl,Option.bind_some,Option.some.injEq] at hc
            subst hc
            cases hx with
            | mp _ _ _ b o hρ=>
             have hR2:=hR
             obtain ⟨own,hRo⟩:=hR2
             obtain ⟨b',o',arr,tt,fr,k1,k2,k3,k4,k5,k6,k7,k9,k8⟩:=hRo.obj _ _ hst
             rw [hρ] at k1
             simp only [Option.some.injEq,Prod.mk.injEq] at k1
             obtain ⟨rfl,rfl⟩:=k1
             have hlen:=k7.len
             simp only [List.length_take,List.length_drop,Array.length_toList] at hlen
             obtain ⟨hb,h1,h2⟩:=a0U (P:=P) (w:=w) (b:=false) (Nat.le_refl n) (Nat.le_refl _) hh hl hlo hhi
             have hm:=Nat.mul_le_mul_right te.size (show ln ≤ n by omega)
             have hs3:(n - ln) * te.size = n * te.size - ln * te.size:=Nat.sub_mul _ _ _
             by_cases hcl2:n = ln
             ·subst hcl2
              refine P5.same hR (v' := .slice (some ⟨b,o + off,none⟩) (hn - n) (n - n)) (by simp [Instr.sliceAt,Instr.sureAddr,run_underlying hd,hb,X0 hi2]) ?_
              exact .ms _ _ _ _ _ b o _ _ hρ (by omega) (.inl (by omega))
             ·refine P5.same hR (v' := .slice (some ⟨b,o + off + ln * te.size,none⟩) (hn - ln) (n - ln)) (by simp [Instr.sliceAt,Instr.sureAddr,run_underlying hd,hb,X0 hi2,hcl2,hs2,add_lit]) ?_
              refine .ms _ _ _ _ _ b o _ _ hρ (by omega) (.inr ⟨by rw [Nat.add_assoc],_,k4,?_⟩)
              omega
         ·cases hc
        ·cases hc
       ·cases hc
    ·cases h
  ·cases hm
theorem g_len (hT:X1 P A) (hR:Rel A.bld A.u8 w0 G st w) {t:TypeId} {x:AV} {xv:Value} {c:AV→Option R} {r:R} (h:lenK A t x st c = some r) (hx:VR G x xv) :
  ∃ v,c v = some r∧∀ ty:TypeId,P5 P A w0 G (Builtin.len_ #[t] ty #[xv]) w v st:=by
 unfold lenK at h
 cases hs:P0 t A.tab with
 | none=>simp [hs] at h
 | some td=>
  simp only [hs,Option.bind_some] at h
  obtain ⟨_,d,_,hd,_,_,hk,_⟩:=(hT t td hs).ok
  split at h
  ·rename_i he
   rw [he] at hk
   obtain rfl:=a2s hk
   cases x with
   | str s=>cases hx; exact ⟨_,h,fun ty=>P5.same hR (by simp [Builtin.len_,run_underlying hd,goInt]) (.int _ _)⟩
   | _=>simp [asS] at h
  ·rename_i n e he
   rw [he] at hk
   obtain rfl:=kk_arr hk
   exact ⟨_,h,fun ty=>P5.same hR (by simp [Builtin.len_,run_underlying hd,goInt]) (.int _ _)⟩
  ·rename_i e he
   rw [he] at hk
   obtain rfl:=Z1 hk
   cases hl:P3 x with
   | none=>simp [hl] at h
   | some n=>
    simp only [hl,Option.bind_some] at h
    refine ⟨_,h,fun ty=>?_⟩
    unfold P3 at hl
    split at hl <;> cases hl <;> cases hx <;> exact P5.same hR (by simp [Builtin.len_,run_underlying hd,goInt]) (.int _ _)
  ·rename_i k e he
   rw [he] at hk
   obtain rfl:=kk_map hk
   cases hl:lenM x st with
   | none=>simp [hl] at h
   | some n=>
    simp only [hl,Option.bind_some] at h
    refine ⟨_,h,fun ty=>?_⟩
    unfold lenM at hl
    split at hl
    ·cases hl; cases hx; exact P5.same hR (by simp [Builtin.len_,run_underlying hd,goInt]) (.int _ _)
    ·rename_i id
     split at hl
     ·rename_i es hid
      cases hl
      obtain ⟨own,hRo⟩:=hR
      obtain ⟨b,arr,h1,h2,h3,h4,h5⟩:=hRo.obj id _ hid
      cases hx with
      | mr _ b' h6=>
       rw [h1] at h6
       cases h6
       exact P5.same ⟨own,hRo⟩ (v' := .int .i64 (arr.size:Nat)) (by simp [Builtin.len_,run_underlying hd,goInt,getObj,Sem.run,h3]) (by rw [h4]; exact .int _ _)
     ·cases hl
    ·cases hl
  ·cases h
theorem g_un {td:TD} {op:UnOp} {x:AV} {xv:Value} {c:AV→Option R} {r:R} (h:unK td op x c = some r) (hx:VR G x xv):∃ v,c v = some r∧∃ v',(Op.unary op xv).run P w = .ok v' w∧VR G v v':=by
 unfold unK at h
 split at h
 ·split at h
  ·rename_i ik _
   cases x with
   | int k n=>
    simp only [asI] at h
    split at h
    ·rename_i hk; subst hk; cases hx; exact ⟨_,h,_,rfl, .int _ _⟩
    ·simp at h
   | _=>simp [asI] at h
  ·cases h
 ·split at h
  ·rename_i ik _
   cases x with
   | int k n=>
    simp only [asI] at h
    split at h
    ·rename_i hk; subst hk; cases hx; exact ⟨_,h,_,rfl, .int _ _⟩
    ·simp at h
   | _=>simp [asI] at h
  ·cases h
 ·cases x with
  | bool b=>cases hx; exact ⟨_,h,_,rfl, .bool _⟩
  | _=>simp [asB] at h
 ·cases h
end
end Go.St
namespace Go.St
open Go.RowKit
set_option linter.unusedVariables false
set_option linter.unusedSimpArgs false
section
variable {P:Program} {A:P2} {w0:World} {G:Gh} {st st':Sto} {w:World} {R:Type}
theorem a13.fresh {T e:TypeId} {own:Nat→Option Nat} (h:a13 T e w0 G own st w):G.H w.heap.size = none∧G.Z w.heap.size = none∧own w.heap.size = none:=by
 refine ⟨?_,?_,?_⟩
 ·cases hh:G.H w.heap.size with
  | none=>rfl
  | some l=>obtain ⟨_,_,_,_,hx,_⟩:=h.prot _ _ hh; have:=(Array.getElem?_eq_some_iff.1 hx).1; omega
 ·cases hh:G.Z w.heap.size with
  | none=>rfl
  | some l=>obtain ⟨_,_,_,hx,_⟩:=h.size _ _ hh; have:=(Array.getElem?_eq_some_iff.1 hx).1; omega
 ·cases hh:own w.heap.size with
  | none=>rfl
  | some l=>have:=(h.ownlt _ _ hh).2; omega
theorem alloc_at (w:World) (o:Obj):(w.alloc o).heap[w.heap.size]? = some o:=by show (w.heap.push _)[w.heap.size]? = _; simp
theorem W7 (hR:Rel A.bld A.u8 w0 G st w) (arr:Array Value) (t:TypeId) (fr:Nat × Nat) (cs:List AV) (o fz:Nat) (hl:o + cs.length ≤ arr.size) (hv:VRs G cs ((arr.toList.drop o).take cs.length)) (h1:∀ v ∈ (arr.toList.drop o).take cs.length,v.oneCell' = true) (hf:free fr (o + fz) arr.size) :
  ∃ G',G.le G'∧Rel A.bld A.u8 w0 G' (st ++ [.cells 0 cs fz]) (w.alloc (.cells arr t fr))∧G'.ρ st.length 0 = some (w.heap.size,o)∧G'.Z w.heap.size = some arr.size:=by
 obtain ⟨own,hR⟩:=hR
 obtain ⟨fH,fZ,fo⟩:=hR.fresh
 have hle:G.le { ρ:=fun i g=>if i = st.length∧g = 0 then some (w.heap.size,o) else G.ρ i g,H:=G.H,Z:=fun b=>if b = w.heap.size then some arr.size else G.Z b }:=by
  refine ⟨fun i g x hx=>?_,fun b l hb=>⟨[],by simpa using hb⟩,fun b n hb=>?_⟩
  ·obtain ⟨ob,ho,_⟩:=hR.dom i g x hx
   have:=(List.getElem?_eq_some_iff.1 ho).1
   simp only
   rw [if_neg (by omega)]
   exact hx
  ·simp only
   rw [if_neg (fun e=>by subst e; rw [fZ] at hb; cases hb)]
   exact hb
 refine ⟨_,hle,⟨fun k=>if k = w.heap.size then some st.length else own k,hR.new (.cells 0 cs fz) _ _ _ rfl hle (fun _ _=>rfl) (fun l hl=>by rw [fH] at hl; cases hl) (fun k n hn=>?_) (fun j g x hx=>?_) ?_⟩,by simp,by simp⟩
 ·simp only at hn
  split at hn
  ·rename_i hk; cases hn; exact .inr ⟨hk,arr,t,fr,rfl,rfl⟩
  ·rename_i hk; exact .inl ⟨hk,hn⟩
 ·simp only at hx
  split at hx
  ·rename_i hj; exact .inr ⟨hj.1,by simp [Ob.ver,hj.2]⟩
  ·exact .inl hx
 ·exact ⟨w.heap.size,o,arr,t,fr,by simp,by simp,fH,by simp,alloc_at w _,hl,hv.mono hle,h1,fun _=>hf⟩
theorem rel_newtip (hR:Rel A.bld A.u8 w0 G st w) (l m:List Value) (arr:Array Value) (harr:arr.toList = l ++ m) (t:TypeId) :
  ∃ G',G.le G'∧Rel A.bld A.u8 w0 G' (st ++ [.tip 0]) (w.alloc (.cells arr t))∧G'.ρ st.length 0 = some (w.heap.size,l.length)∧G'.Z w.heap.size = some arr.size∧G'.H w.heap.size = some l:=by
 obtain ⟨own,hR⟩:=hR
 obtain ⟨fH,fZ,fo⟩:=hR.fresh
 have hle:G.le { ρ:=fun i g=>if i = st.length∧g = 0 then some (w.heap.size,l.length) else G.ρ i g,H:=fun b=>if b = w.heap.size then some l else G.H b,Z:=fun b=>if b = w.heap.size then some arr.size else G.Z b }:=by
  refine ⟨fun i g x hx=>?_,fun b l hb=>⟨[],?_⟩,fun b n hb=>?_⟩
  ·obtain ⟨ob,ho,_⟩:=hR.dom i g x hx
   have:=(List.getElem?_eq_some_iff.1 ho).1
   simp only
   rw [if_neg (by omega)]
   exact hx
  ·simp only [List.append_nil]
   rw [if_neg (fun e=>by subst e; rw [fH] at hb; cases hb)]
   exact hb
  ·simp only
   rw [if_neg (fun e=>by subst e; rw [fZ] at hb; cases hb)]
   exact hb
 refine ⟨_,hle,⟨fun k=>if k = w.heap.size then some st.length else own k,hR.new (.tip 0) _ _ _ rfl hle (fun k hk=>by simp [hk]) (fun l' hl'=>?_) (fun k n hn=>?_) (fun j g x hx=>?_) ?_⟩,by simp,by simp,by simp⟩
 ·simp only [if_true,Option.some.injEq] at hl'
  subst hl'
  exact ⟨arr,t,(0,0),m,rfl,harr⟩
 ·simp only at hn
  split at hn
  ·rename_i hk; cases hn; exact .inr ⟨hk,arr,t,(0,0),rfl,rfl⟩
  ·rename_i hk; exact .inl ⟨hk,hn⟩
 ·simp only at hx
  split at hx
  ·rename_i hj; exact .inr ⟨hj.1,by simp [Ob.ver,hj.2]⟩
  ·exact .inl hx
 ·exact ⟨w.heap.size,l,arr,t,(0,0),by simp,by simp,by simp,by simp,alloc_at w _,fun k _ _=>by omega⟩
theorem a4E (hR:Rel A.bld A.u8 w0 G st w) (arr:Array Value) (t:TypeId) (fr:Nat × Nat) :
  ∃ G',G.le G'∧Rel A.bld A.u8 w0 G' st (w.alloc (.cells arr t fr))∧G'.H w.heap.size = some arr.toList∧G'.Z w.heap.size = some arr.size:=by
 obtain ⟨own,hR⟩:=hR
 obtain ⟨h1,h2⟩:=hR.newrow arr t fr
 exact ⟨_,h2,⟨own,h1⟩,by simp,by simp⟩
theorem a1t (hR:Rel A.bld A.u8 w0 G st w) (n:Nat):Rel A.bld A.u8 w0 G st { w with drawn:=n }:=let ⟨own,h⟩:=hR; ⟨own,h.drawn n⟩
theorem free0 (o n:Nat):free (0,0) o n:=fun k _ _=>by omega
theorem Y1 {te:TD} {z:Value} (hz:zrsB te.zero z.cells.toList = true) (hl:te.zero.length = te.size) (G:Gh):VRs G te.zero z.cells.toList∧z.cells.size = te.size∧te.zero.all AV.isCell = true:=by
 obtain ⟨h1,h2⟩:=zrsB_VRs hz G
 exact ⟨h1,by rw [←hl,h1.len]; simp,h2⟩
theorem g_alloc (hT:X1 P A) (hR:Rel A.bld A.u8 w0 G st w) {t:TypeId} {td:TD} (ht:P0 t A.tab = some td) (old:Value):P5 P A w0 G (Instr.alloc t true old) w (.mp st.length 0 0) (st ++ [.cells 0 td.zero 0]):=by
 obtain ⟨i,d,hi,hd,hs,_,hk,z,hz,hzr,_,_,hzl⟩:=(hT t td ht).ok
 obtain ⟨z1,z2,z3⟩:=Y1 hzr hzl G
 obtain ⟨G',h1,h2,h3,h4⟩:=W7 hR z.cells t (0,0) td.zero 0 0 (by omega) (by simpa [hzl,z2,List.take_of_length_le] using z1) (fun v hv=>z1.cellish z3 v (List.mem_of_mem_take hv)) (free0 _ _)
 refine ⟨.pointer (some ⟨w.heap.size,0,none⟩),_,G',?_,h1,h2, .mp _ _ 0 _ _ h3⟩
 simp [Instr.alloc,a4v hi hz,newVar,newRow]
theorem g_box (hR:Rel A.bld A.u8 w0 G st w) {x:AV} {xv:Value} (hx:VR G x xv) (hc:x.cells.all AV.isCell = true) (t:TypeId):P5 P A w0 G (Instr.box t xv) w (.mp st.length 0 0) (st ++ [.cells 0 x.cells 0]):=by
 obtain ⟨h1,h2⟩:=hx.cells hc
 have hl:x.cells.length = xv.cells.size:=by rw [h1.len]; simp
 obtain ⟨G',k1,k2,k3,k4⟩:=W7 hR xv.cells t (0,0) x.cells 0 0 (by omega) (by simpa [hl,List.take_of_length_le] using h1) (fun v hv=>h2 v (List.mem_of_mem_take hv)) (free0 _ _)
 refine ⟨.pointer (some ⟨w.heap.size,0,none⟩),_,G',?_,k1,k2, .mp _ _ 0 _ _ k3⟩
 simp [Instr.box,newVar,newRow]
theorem foldl_set (off:Nat):∀ (vs:List Value) (k:Nat) (arr:Array Value),off + k + vs.length ≤ arr.size →
  ((vs.zipIdx k).foldl (fun cs (x:Value × Nat)=>cs.setIfInBounds (off + x.2) x.1) arr).toList = splice arr.toList (off + k) vs:=by
 intro vs
 induction vs with
 | nil=>intro k arr h; simp [splice]
 | cons v r ih=>
  intro k arr h
  simp only [List.length_cons] at h
  simp only [List.zipIdx_cons,List.foldl_cons]
  rw [ih (k + 1) _ (by simp; omega),Array.toList_setIfInBounds]
  rw [show off + (k + 1) = off + k + 1 by omega,a3y _ _ _ _ (by simp; omega)]
theorem a2g {place:Nat→Option (Nat × Nat)}:∀ {parts:List (Nat × AV)} {pv:List (Nat × Value)} {cells cs:List AV} {arr:Array Value},O9 place cells parts = some cs→VRs G cells arr.toList →
  (parts.length = pv.length∧∀ (j:Nat) (x:Nat × AV) (y:Nat × Value),parts[j]? = some x→pv[j]? = some y→x.1 = y.1∧VR G x.2 y.2)→(∀ v ∈ arr.toList,v.oneCell' = true)→∃ arr',Instr.fill place arr pv = some arr'∧VRs G cs arr'.toList∧∀ v ∈ arr'.toList,v.oneCell' = true:=by
 intro parts
 induction parts with
 | nil=>
  intro pv cells cs arr h hv hp h1
  have:pv = []:=List.eq_nil_of_length_eq_zero (by simpa using hp.1.symm)
  subst this
  simp only [O9,Option.some.injEq] at h
  subst h
  exact ⟨arr,rfl,hv,h1⟩
 | cons x r ih=>
  intro pv cells cs arr h hv hp hall
  cases pv with
  | nil=>simp at hp
  | cons y pv=>
   obtain ⟨i,a⟩:=x
   obtain ⟨i',v⟩:=y
   obtain ⟨rfl,hav⟩:=hp.2 0 _ _ rfl rfl
   simp only [O9] at h
   simp only [Instr.fill]
   cases hpl:place i with
   | none=>simp [hpl] at h
   | some os=>
    obtain ⟨off,size⟩:=os
    simp only [hpl] at h ⊢
    split at h
    ·rename_i hc
     obtain ⟨h1,h2,h3⟩:=hc
     obtain ⟨hcv,hone⟩:=hav.cells h3
     have hsz:v.cells.size = size:=by rw [←h1,hcv.len]; simp
     have hal:arr.size = cells.length:=by rw [hv.len]; simp
     have hcond:((v.cells.size ≠ size) || (off + v.cells.size > arr.size)) = false:=by
      simp only [ne_eq,Bool.or_eq_false_iff,decide_eq_false_iff_not]
      exact ⟨by simpa using hsz,by omega⟩
     simp only [hcond,Bool.false_eq_true,if_false]
     have hf:(v.cells.zipIdx.foldl (fun cs (x:Value × Nat)=>cs.setIfInBounds (off + x.2) x.1) arr).toList = splice arr.toList off v.cells.toList:=by
      rw [←Array.foldl_toList,Array.toList_zipIdx]
      exact foldl_set off v.cells.toList 0 arr (by simp; omega)
     exact ih h (by rw [show (v.cells.zipIdx.foldl (fun cs (x:Value × Nat)=>match x with | (c,j)=>cs.setIfInBounds (off + j) c) arr).toList = splice arr.toList off v.cells.toList from hf]; exact hv.splice off hcv)
      ⟨by simpa using hp.1,fun j x y hx hy=>hp.2 (j + 1) x y (by simpa using hx) (by simpa using hy)⟩
      (by
       rw [show (v.cells.zipIdx.foldl (fun cs (x:Value × Nat)=>match x with | (c,j)=>cs.setIfInBounds (off + j) c) arr).toList = splice arr.toList off v.cells.toList from hf]
       intro u hu
       unfold splice at hu
       simp only [List.mem_append] at hu
       rcases hu with hu | hu | hu
       ·exact hall u (List.mem_of_mem_take hu)
       ·exact hone u hu
       ·exact hall u (List.mem_of_mem_drop hu))
    ·cases h
def PartsR (G:Gh) (ps:List (Nat × AV)) (pv:List (Nat × Value)):Prop:=ps.length = pv.length∧∀ (j:Nat) (x:Nat × AV) (y:Nat × Value),ps[j]? = some x→pv[j]? = some y→x.1 = y.1∧VR G x.2 y.2
theorem places_sound (hT:X1 P A):∀ {fs:List (Nat × TypeId)} {pl:List (Nat × Nat)} {l:List Field},placesOf A fs = some pl→fieldsB fs l = true →
  l.mapM (fun f=>(P.info? f.type).map fun i=>(f.offset,i.size)) = some pl:=by
 intro fs
 induction fs with
 | nil=>
  intro pl l h hf
  cases l with
  | nil=>simp [placesOf] at h; subst h; rfl
  | cons f l=>simp [fieldsB] at hf
 | cons x r ih=>
  intro pl l h hf
  obtain ⟨off,t⟩:=x
  cases l with
  | nil=>simp [fieldsB] at hf
  | cons f l=>
   simp only [fieldsB,Bool.and_eq_true,beq_iff_eq] at hf
   simp only [placesOf] at h
   cases ht:P0 t A.tab with
   | none=>simp [ht] at h
   | some td=>
    simp only [ht,Option.bind_some] at h
    cases hr:placesOf A r with
    | none=>simp [hr] at h
    | some pr=>
     simp only [hr,Option.bind_some,Option.some.injEq] at h
     subst h
     obtain ⟨i,d,hi,hd,hs,_⟩:=(hT t td ht).ok
     rw [List.mapM_cons,ih hr hf.2,←hf.1.2,←hf.1.1]
     simp [hi,hs]
theorem g_build (hT:X1 P A) (hR:Rel A.bld A.u8 w0 G st w) {t:TypeId} {ps:List (Nat × AV)} {pv:Array (Nat × Value)} {v:AV} (h:build A t ps = some v) (hp:PartsR G ps pv.toList):P5 P A w0 G (Instr.build t pv) w v st:=by
 unfold build at h
 cases ht:P0 t A.tab with
 | none=>simp [ht] at h
 | some td=>
  simp only [ht,Option.bind_some] at h
  obtain ⟨i,d,hi,hd,hs,_,hk,z,hz,hzr,hag,_,hzl⟩:=(hT t td ht).ok
  obtain ⟨z1,z2,z3⟩:=Y1 hzr hzl G
  split at h
  ·rename_i fs hfs
   rw [hfs] at hk
   obtain ⟨l,rfl,hl⟩:=a3U hk
   cases hpl:placesOf A fs with
   | none=>simp [hpl] at h
   | some pl=>
    simp only [hpl,Option.bind_some] at h
    unfold X3 at h
    cases hf:O9 (fun i=>pl[i]?) td.zero ps with
    | none=>simp [hf] at h
    | some cs=>
     simp only [hf,Option.bind_some,Option.some.injEq] at h
     subst h
     obtain ⟨arr,ha,hv,_⟩:=a2g hf z1 hp (z1.cellish z3)
     have hpm:=places_sound hT hpl hl
     have hb:P.built t pv.toList = some arr:=by
      simp only [Program.built,hi,hd,hz,hpm]
      simpa using ha
     exact P5.same hR (run_build w t pv arr hb) (.agg _ _ (by rw [hv.len]; simp) fun j a v ha hv'=>hv.at_ j a v ha (by simpa using hv'))
  ·rename_i n e hfs
   rw [hfs] at hk
   obtain rfl:=kk_arr hk
   cases hte:P0 e A.tab with
   | none=>simp [hte] at h
   | some te=>
    simp only [hte,Option.bind_some] at h
    obtain ⟨i2,d2,hi2,hd2,hs2,_⟩:=(hT e te hte).ok
    unfold X3 at h
    cases hf:O9 (fun i=>some (i * te.size,te.size)) td.zero ps with
    | none=>simp [hf] at h
    | some cs=>
     simp only [hf,Option.bind_some,Option.some.injEq] at h
     subst h
     obtain ⟨arr,ha,hv,_⟩:=a2g hf z1 hp (z1.cellish z3)
     have hb:P.built t pv.toList = some arr:=by
      simp only [Program.built,hi,hd,hz,hi2,hs2]
      exact ha
     exact P5.same hR (run_build w t pv arr hb) (.agg _ _ (by rw [hv.len]; simp) fun j a v ha hv'=>hv.at_ j a v ha (by simpa using hv'))
  ·cases h
theorem a0K {α:Type} (n:Nat) (z:List α):(a2k n z).length = n * z.length:=by
 induction n with
 | zero=>simp [a2k]
 | succ n ih=>simp [a2k,ih,Nat.succ_mul,Nat.add_comm]
theorem reps_get {α:Type} (z:List α):∀ (n j:Nat),j < n * z.length→(a2k n z)[j]? = z[j % z.length]?:=by
 intro n
 induction n with
 | zero=>intro j h; simp at h
 | succ n ih=>
  intro j h
  simp only [a2k]
  rw [Nat.succ_mul] at h
  by_cases hj:j < z.length
  ·rw [List.getElem?_append_left hj,Nat.mod_eq_of_lt hj]
  ·rw [List.getElem?_append_right (by omega),ih _ (by omega),←Nat.mod_eq_sub_mod (by omega)]
theorem reps_all {z:List AV} (h:z.all AV.isCell = true) (n:Nat):(a2k n z).all AV.isCell = true:=by
 induction n with
 | zero=>rfl
 | succ n ih=>simp only [a2k,List.all_append,h,ih,Bool.and_self]
theorem a3G {zs:List AV} {z:Array Value} (hz:VRs G zs z.toList) (n k:Nat) (hk:k = n * zs.length):VRs G (a2k n zs) ((Array.range k).map (z[· % z.size]!)).toList:=by
 have hl:zs.length = z.size:=by rw [hz.len]; simp
 refine ⟨by rw [a0K]; simp [hk],fun j a v ha hv=>?_⟩
 have hj:j < n * zs.length:=by rw [←a0K]; exact (List.getElem?_eq_some_iff.1 ha).1
 rw [reps_get _ _ _ hj] at ha
 have hpos:0 < zs.length:=by
  rcases Nat.eq_zero_or_pos zs.length with h0 | h0
  ·rw [h0] at hj; omega
  ·exact h0
 have hm:j % zs.length < zs.length:=Nat.mod_lt _ hpos
 simp only [Array.toList_map,List.getElem?_map,Array.toList_range,List.getElem?_range (show j < k by omega),Option.map_some,Option.some.injEq] at hv
 subst hv
 refine hz.at_ (j % zs.length) a _ ha ?_
 rw [←hl,Array.getElem?_toList,getElem!_pos z _ (by omega)]
 exact Array.getElem?_eq_getElem (by omega)
theorem g_buildSlice (hT:X1 P A) (hR:Rel A.bld A.u8 w0 G st w) {wr:Bool} {t:TypeId} {len:Nat} {ps:List (Nat × AV)} {pv:Array (Nat × Value)} {v:AV} (h:buildSlice A wr t len ps st = some (v,st')) (hp:PartsR G ps pv.toList) :
  P5 P A w0 G (Instr.buildSlice t len pv) w v st':=by
 unfold buildSlice at h
 cases ht:P0 t A.tab with
 | none=>simp [ht] at h
 | some td=>
  simp only [ht,Option.bind_some] at h
  obtain ⟨i,d,hi,hd,hs,_,hk,_⟩:=(hT t td ht).ok
  split at h
  ·rename_i e hfs
   rw [hfs] at hk
   obtain rfl:=Z1 hk
   cases hte:P0 e A.tab with
   | none=>simp [hte] at h
   | some te=>
    simp only [hte,Option.bind_some] at h
    obtain ⟨i2,d2,hi2,hd2,hs2,_,hk2,z,hz,hzr,hag,_,hzl⟩:=(hT e te hte).ok
    obtain ⟨z1,z2,z3⟩:=Y1 hzr hzl G
    split at h
    ·rename_i h24
     unfold S8 at h
     cases hf:O9 (fun i=>some (i * te.size,te.size)) (a2k len te.zero) ps with
     | none=>simp [hf] at h
     | some cs=>
      simp only [hf,Option.bind_some] at h
      obtain ⟨arr,ha,hv,hone⟩:=a2g hf (a3G z1 len (len * te.size) (by rw [hzl])) hp ((a3G z1 len (len * te.size) (by rw [hzl])).cellish (reps_all z3 _))
      have hlen:cs.length = arr.size:=by rw [hv.len]; simp
      have hrun:(Instr.buildSlice t len pv).run P w = .ok (.slice (some ⟨w.heap.size,0,none⟩) len len) (w.alloc (.cells arr e)):=by
       have h24':¬ (16777216 < len * te.size):=by omega
       simp only [Instr.buildSlice,Sem.run_bind,run_underlying hd,Result.andThen_ok,X0 hi2,hs2]
       by_cases h0:len * te.size = 0
       ·have hrange:Array.range (len * te.size) = #[]:=by rw [h0]; simp
        rw [hrange] at ha
        simp only [List.map_toArray,List.map_nil] at ha
        have hr0:Array.range 0 = #[]:=by simp
        simp [h24',h0,hr0,ha,newRow]
       ·simp [h24',h0,a4v hi2 hz,ha,newRow]
      have hcs:cs.length = len * te.size:=by
       have:∀ {ps:List (Nat × AV)} {c0 cs:List AV},O9 (fun i=>some (i * te.size,te.size)) c0 ps = some cs→cs.length = c0.length:=by
        intro ps
        induction ps with
        | nil=>intro c0 cs h; simp [O9] at h; rw [h]
        | cons x r ih=>
         intro c0 cs h
         obtain ⟨j,a⟩:=x
         simp only [O9] at h
         split at h
         ·rename_i hc; rw [ih h,W8 _ _ _ (by omega)]
         ·cases h
       rw [this hf,a0K,hzl]
      split at h
      ·simp only [Option.some.injEq,Prod.mk.injEq] at h
       obtain ⟨rfl,rfl⟩:=h
       obtain ⟨G',k1,k2,k3,k4⟩:=W7 hR arr e (0,0) cs 0 0 (by omega) (by simpa [hlen,List.take_of_length_le] using hv) (fun v hv=>hone v (List.mem_of_mem_take hv)) (free0 _ _)
       exact ⟨_,_,G',hrun,k1,k2, .ms _ 0 0 len te.size _ 0 len _ k3 (Nat.le_refl _) (.inr ⟨rfl,_,k4,by omega⟩)⟩
      ·simp only [Option.some.injEq,Prod.mk.injEq] at h
       obtain ⟨rfl,rfl⟩:=h
       obtain ⟨G',k1,k2,k3,k4⟩:=a4E hR arr e (0,0)
       exact ⟨_,_,G',hrun,k1,k2, .is cs len .full _ 0 len _ k3 (by simp; omega) (Nat.le_refl _) rfl (fun j a v ha hv'=>(hv.mono k1).at_ j a v ha (by simpa using hv')) (fun j v _ hv'=>hone v (by simp only [Nat.zero_add] at hv'; exact List.mem_of_getElem? hv'))⟩
    ·cases h
  ·cases h
theorem g_makeSlice (hT:X1 P A) (hR:Rel A.bld A.u8 w0 G st w) {t:TypeId} {l c:AV} {lv cv:Value} {v:AV} (h:makeSlice A t l c st = some (v,st')) (hl:VR G l lv) (hc:VR G c cv):P5 P A w0 G (Instr.makeSlice t lv cv) w v st':=by
 unfold makeSlice at h
 cases ht:P0 t A.tab with
 | none=>simp [ht] at h
 | some td=>
  simp only [ht,Option.bind_some] at h
  obtain ⟨i,d,hi,hd,hs,_,hk,_⟩:=(hT t td ht).ok
  split at h
  ·rename_i e hfs
   rw [hfs] at hk
   obtain rfl:=Z1 hk
   cases hte:P0 e A.tab with
   | none=>simp [hte] at h
   | some te=>
    simp only [hte,Option.bind_some] at h
    obtain ⟨i2,d2,hi2,hd2,hs2,hb2,hk2,z,hz,hzr,hag,_,hzl⟩:=(hT e te hte).ok
    obtain ⟨z1,z2,z3⟩:=Y1 hzr hzl G
    unfold mkS at h
    split at h
    ·rename_i ln cn
     split at h
     ·rename_i hcond
      obtain ⟨c1,c2,c3,c4⟩:=hcond
      simp only [Option.some.injEq,Prod.mk.injEq] at h
      obtain ⟨rfl,rfl⟩:=h
      cases hl; cases hc
      have hm:(madeCells z.cells (cn.toNat * i2.size)) = (Array.range (cn.toNat * te.size)).map (z.cells[· % z.cells.size]!):=by rw [hs2]; rfl
      have hsz:(madeCells z.cells (cn.toNat * i2.size)).size = cn.toNat * te.size:=by rw [hm]; simp
      have hzz:=a3G z1 cn.toNat (cn.toNat * te.size) (by rw [hzl])
      have hle:ln.toNat * te.size ≤ cn.toNat * te.size:=Nat.mul_le_mul_right _ (by omega)
      have htake:a2k ln.toNat te.zero = (a2k cn.toNat te.zero).take (ln.toNat * te.size):=by
       apply List.ext_getElem?
       intro j
       rw [List.getElem?_take]
       by_cases hj:j < ln.toNat * te.size
       ·rw [if_pos hj,reps_get _ _ _ (by rw [hzl]; exact hj),reps_get _ _ _ (by rw [hzl]; omega)]
       ·rw [if_neg hj,List.getElem?_eq_none (by rw [a0K,hzl]; omega)]
      obtain ⟨G',k1,k2,k3,k4⟩:=W7 hR (madeCells z.cells (cn.toNat * i2.size)) e (0,0) (a2k ln.toNat te.zero) 0 0 (by rw [hsz,a0K,hzl]; omega)
       (by rw [List.drop_zero,a0K,hzl,hm,htake]; exact hzz.take _) (by rw [List.drop_zero,hm]; exact fun v hv=>hzz.cellish (reps_all z3 _) v (List.mem_of_mem_take hv)) (free0 _ _)
      refine ⟨_,_,G',run_make w t e i2 z hd hi2 hz .i64 .i64 ln cn c1 c2 (by rw [hb2]; omega) c3,k1,k2, .ms _ 0 0 _ te.size _ 0 _ _ k3 (by omega) (.inr ⟨rfl,_,k4,?_⟩)⟩
      rw [hsz]; omega
     ·cases h
    ·cases h
  ·cases h
end
end Go.St
namespace Go.St
open Go.RowKit
set_option linter.unusedVariables false
set_option linter.unusedSimpArgs false
section
variable {P:Program} {A:P2} {w0:World} {G:Gh} {st st':Sto} {w:World} {R:Type}
theorem a0i (s:ByteArray) (G:Gh):VRs G (a0p s) (byteCells s):=by
 unfold a0p byteCells
 generalize s.data.toList = l
 induction l with
 | nil=>exact VRs.nil G
 | cons b r ih=>exact VRs.cons (.int _ _) ih
theorem Z9 (hR:Rel A.bld A.u8 w0 G st w) {es:Nat} {x:AV} {row:List AV} {xv:Value} (h:rowOf st es x = some row) (hx:VR G x xv) :
  ∃ a len cap vs,xv = .slice a len cap∧row.length = len * es∧VRs G row vs∧(∀ v ∈ vs,v.oneCell' = true)∧((a = none∧len = 0∧cap = 0)∨∃ b o,a = some ⟨b,o,none⟩∧len ≤ cap∧∀ j v,vs[j]? = some v→w.cell? ⟨b,o + j,none⟩ = some v) ∨
   (row = []∧∃ a cap,xv = .slice (some a) 0 cap):=by
 obtain ⟨own,hR⟩:=hR
 unfold rowOf at h
 split at h
 ·cases h; cases hx
  exact ⟨none,0,0,[], .inl ⟨rfl,by simp,VRs.nil G,by simp, .inl ⟨rfl,rfl,rfl⟩⟩⟩
 ·rename_i row0 len tok
  have one:∀ {row:List AV},row.length = len * es→row.length ≤ row0.length→row = row0.take row.length →
    ∃ a len cap vs,xv = .slice a len cap∧row.length = len * es∧VRs G row vs∧(∀ v ∈ vs,v.oneCell' = true)∧((a = none∧len = 0∧cap = 0)∨∃ b o,a = some ⟨b,o,none⟩∧len ≤ cap∧∀ j v,vs[j]? = some v→w.cell? ⟨b,o + j,none⟩ = some v) ∨
     (row = []∧∃ a cap,xv = .slice (some a) 0 cap):=by
   intro row hl hle heq
   cases hx with
   | is0 a cap=>exact ⟨none,0,0,[], .inr ⟨by rw [heq,List.take_nil],a,cap,rfl⟩⟩
   | is _ _ _ b o cap l hH hlen hc ht hh h1=>
    obtain ⟨arr,t,fr,m,hb,hm⟩:=hR.prot b l hH
    refine ⟨_,_,cap,(l.drop o).take row.length, .inl ⟨rfl,hl,VRs.of_row (by omega) (fun j a v ha hv=>hh j a v (by rw [heq,List.getElem?_take] at ha; split at ha <;> first | exact ha | cases ha) hv),fun v hv=>?_, .inr ⟨b,o,rfl,hc,fun j v hv=>?_⟩⟩⟩
    ·obtain ⟨j,hj,rfl⟩:=List.getElem_of_mem hv
     simp only [List.length_take,List.length_drop] at hj
     refine h1 j _ (by omega) ?_
     rw [List.getElem_take,List.getElem_drop]
     exact List.getElem?_eq_getElem _
    ·rw [List.getElem?_take] at hv
     split at hv
     ·rw [List.getElem?_drop] at hv
      rw [a0j hb,←Array.getElem?_toList,hm,List.getElem?_append_left (List.getElem?_eq_some_iff.1 hv).1]
      exact hv
     ·cases hv
  split at h
  ·rename_i hl
   cases h
   exact one hl (Nat.le_refl _) (List.take_length).symm
  ·split at h
   ·rename_i hl
    cases h
    have hlen:(row0.take (len * es)).length = len * es:=by rw [List.length_take]; omega
    exact one hlen (by omega) (by rw [hlen])
   ·cases h
 ·rename_i id g off len es'
  split at h
  ·rename_i hes
   subst hes
   split at h
   ·rename_i g' cs fz hid
    split at h
    ·rename_i hc
     obtain ⟨rfl,hc⟩:=hc
     cases h
     obtain ⟨b,o,arr,t,fr,h1,h2,h3,h4,h5,h6,h7,h9,h8⟩:=hR.obj id _ hid
     cases hx with
     | ms _ _ _ _ _ b' o' cap a hρ hcap ha=>
      rw [h1] at hρ
      cases hρ
      have hlen:((cs.drop off).take (len * es')).length = len * es':=by simp; omega
      rcases ha with ha | ⟨rfl,n,hn1,hn2⟩
      ·subst ha
       have:len = 0:=by omega
       subst this
       exact ⟨none,0,0,[], .inr ⟨by simp,a,0,rfl⟩⟩
      ·refine ⟨_,_,cap,(((arr.toList.drop o).take cs.length).drop off).take (len * es'), .inl ⟨rfl,hlen,(h7.drop off).take _,fun v hv=>h9 v (List.mem_of_mem_drop (List.mem_of_mem_take hv)), .inr ⟨b,o + off,rfl,hcap,fun j v hv=>?_⟩⟩⟩
       rw [a0j h5,←Array.getElem?_toList]
       rw [List.getElem?_take] at hv
       split at hv
       ·rw [List.getElem?_drop,List.getElem?_take] at hv
        split at hv
        ·rw [List.getElem?_drop] at hv
         rw [←hv]; congr 1; omega
        ·cases hv
       ·cases hv
    ·cases h
   ·cases h
  ·cases h
 ·cases h
theorem tailOf_sound (hT:X1 P A) (hR:Rel A.bld A.u8 w0 G st w) {te:TD} {tx:TypeId} {y:AV} {yv:Value} {b:Bool} {new:List AV} {n:Nat} (hb:srcStr A te tx = some b) (h:T6 b te.size st y = some (new,n)) (hy:VR G y yv)
  (hsz:isU8 te = true→te.size = 1):∃ news,Src P te.size tx yv n news w∧VRs G new news:=by
 unfold srcStr at hb
 cases ht:P0 tx A.tab with
 | none=>simp [ht] at hb
 | some tdx=>
  simp only [ht,Option.bind_some] at hb
  obtain ⟨_,d,_,hd,_,_,hk,_⟩:=(hT tx tdx ht).ok
  split at hb
  ·rename_i e he
   cases hb
   rw [he] at hk
   obtain rfl:=Z1 hk
   unfold T6 at h
   simp only [Bool.false_eq_true,if_false] at h
   have fin:∀ {row:List AV} {len:Nat},rowOf st te.size y = some row→(∀ a l c,yv = .slice a l c→l = len)→(row,len) = (new,n)→∃ news,Src P te.size tx yv n news w∧VRs G new news:=by
    intro row len hr hl heq
    cases heq
    obtain ⟨a,l2,c,vs,hh⟩:=Z9 hR hr hy
    rcases hh with ⟨rfl,h1,h2,h3,h4⟩ | ⟨rfl,a,cap,rfl⟩
    ·obtain rfl:=hl _ _ _ rfl
     refine ⟨vs,?_,h2⟩
     rcases h4 with ⟨rfl,rfl,rfl⟩ | ⟨b,o,rfl,h5,h6⟩
     ·have:vs = []:=List.eq_nil_of_length_eq_zero (by rw [←h2.len,h1]; simp)
      subst this
      exact Src.ofNil w hd 0
     ·exact Src.ofSlice w hd _ _ _ vs (by rw [←h2.len,h1]) (fun j u hu=>by rw [add_lit]; exact h6 j u hu) h3
    ·obtain rfl:=hl _ _ _ rfl
     exact ⟨[],Src.ofSlice w hd a 0 cap [] (by simp) (by simp) (by simp),VRs.nil G⟩
   split at h
   ·simp only [Option.some.injEq] at h
    exact fin (row:=[]) (len:=0) rfl (by cases hy; intro a l c hh; cases hh; rfl) h
   ·rename_i row len tok
    cases hr:rowOf st te.size (.is row len tok) with
    | none=>simp [hr] at h
    | some r=>
     simp only [hr,Option.bind_some,Option.some.injEq] at h
     exact fin hr (by cases hy <;> (intro a l c hh; cases hh; rfl)) h
   ·rename_i id g off len es'
    cases hr:rowOf st te.size (.ms id g off len es') with
    | none=>simp [hr] at h
    | some r=>
     simp only [hr,Option.bind_some,Option.some.injEq] at h
     exact fin hr (by cases hy; intro a l c hh; cases hh; rfl) h
   ·cases h
  ·rename_i he
   split at hb
   ·rename_i hu8
    cases hb
    rw [he] at hk
    obtain rfl:=a2s hk
    unfold T6 at h
    simp only [if_true] at h
    split at h
    ·rename_i s
     cases h
     cases hy
     rw [hsz hu8]
     exact ⟨byteCells s,Src.ofString w hd s,a0i s G⟩
    ·cases h
   ·cases hb
  ·cases hb
theorem room_spec {bytes n:Nat} (h:room bytes n = true):n * bytes ≤ 140737488355328∧n ≤ 4611686018427387904:=by simpa [room] using h
theorem a4g (z:Array Value) (n:Nat):(Builtin.zeroCells z n).size = n * z.size:=by simp [Builtin.zeroCells]
theorem bump_tip {T e:TypeId} {own:Nat→Option Nat} (h:a13 T e w0 G own st w) {i g:Nat} (hi:st[i]? = some (.tip g)):∃ G',G.le G'∧a13 T e w0 G' own (st.set i (.tip (g + 1))) w:=by
 obtain ⟨b,l,arr,t,fr,u1,u2,u3,u4,u5,u6⟩:=h.obj i _ hi
 have hle:G.le { ρ:=fun i' g''=>if i' = i∧g'' = g + 1 then some (b,l.length) else G.ρ i' g'',H:=G.H,Z:=G.Z }:=by
  refine ⟨fun i' g'' y hy=>?_,fun k l2 hk2=>⟨[],by simpa using hk2⟩,fun _ _ hx=>hx⟩
  obtain ⟨ob,ho,hv⟩:=h.dom i' g'' y hy
  simp only
  rw [if_neg (fun e=>by obtain ⟨rfl,rfl⟩:=e; rw [hi] at ho; cases ho; simp [Ob.ver] at hv; omega)]
  exact hy
 refine ⟨_,hle,h.upd (S:=fun _=>False) i _ rfl rfl rfl (Nat.le_refl _) (fun _ _=>rfl) (fun _ h=>h.elim) hle (fun _ _=>rfl) (fun _ _ h=>h.elim) (fun k nn hnn => .inl ⟨id,hnn⟩)
  (.inl ⟨rfl,_,hi,by simp [Ob.ver]⟩) (fun _ => .inl rfl) (fun j gg x hx=>?_) ?_⟩
 ·simp only at hx
  split at hx
  ·rename_i hj; exact .inr ⟨hj.1,by simp [Ob.ver,hj.2]⟩
  ·exact .inl hx
 ·exact ⟨b,l,arr,t,fr,by simp,u2,u3,u4,u5,u6⟩
theorem move_tip {own:Nat→Option Nat} (hR:a13 A.bld A.u8 w0 G own st w) {i g:Nat} (hi:st[i]? = some (.tip g)) (l m:List Value) (arr:Array Value) (harr:arr.toList = l ++ m) (t:TypeId) :
  ∃ G',G.le G'∧Rel A.bld A.u8 w0 G' (st.set i (.tip (g + 1))) (w.alloc (.cells arr t))∧G'.ρ i (g + 1) = some (w.heap.size,l.length)∧G'.Z w.heap.size = some arr.size∧G'.H w.heap.size = some l:=by
 obtain ⟨fH,fZ,fo⟩:=hR.fresh
 have hle:G.le { ρ:=fun i' g''=>if i' = i∧g'' = g + 1 then some (w.heap.size,l.length) else G.ρ i' g'',H:=fun b=>if b = w.heap.size then some l else G.H b,Z:=fun b=>if b = w.heap.size then some arr.size else G.Z b }:=by
  refine ⟨fun i' g'' y hy=>?_,fun b l hb=>⟨[],?_⟩,fun b n hb=>?_⟩
  ·obtain ⟨ob,ho,hv⟩:=hR.dom i' g'' y hy
   simp only
   rw [if_neg (fun e=>by obtain ⟨rfl,rfl⟩:=e; rw [hi] at ho; cases ho; simp [Ob.ver] at hv; omega)]
   exact hy
  ·simp only [List.append_nil]
   rw [if_neg (fun e=>by subst e; rw [fH] at hb; cases hb)]
   exact hb
  ·simp only
   rw [if_neg (fun e=>by subst e; rw [fZ] at hb; cases hb)]
   exact hb
 refine ⟨_,hle,⟨fun k=>if k = w.heap.size then some i else own k,hR.upd (S:=fun k=>k = w.heap.size) i (.tip (g + 1)) rfl rfl rfl (by show w.heap.size ≤ (w.heap.push _).size; simp) (fun k hk=>?_) (fun k hk=>?_) hle (fun k hk=>by simp [hk]) (fun k l2 hk hl2=>?_) (fun k n hn=>?_)
  (.inl ⟨rfl,_,hi,by simp [Ob.ver]⟩) (fun k=>?_) (fun j gg x hx=>?_) ?_⟩,by simp,by simp,by simp⟩
 ·show (w.heap.push _)[k]? = _
  rw [Array.getElem?_push,if_neg hk]
 ·subst hk; exact ⟨hR.below.size, .inl fo⟩
 ·subst hk
  simp only [if_true,Option.some.injEq] at hl2
  subst hl2
  exact ⟨arr,t,(0,0),m,alloc_at w _,harr⟩
 ·simp only at hn
  split at hn
  ·rename_i hk; cases hn; subst hk; exact .inr ⟨arr,t,(0,0),alloc_at w _,rfl⟩
  ·rename_i hk; exact .inl ⟨hk,hn⟩
 ·by_cases hk:k = w.heap.size
  ·exact .inr ⟨hk, .inl (by simp [hk]),by subst hk; show _ < (w.heap.push _).size; simp⟩
  ·exact .inl (by simp [hk])
 ·simp only at hx
  split at hx
  ·rename_i hj; exact .inr ⟨hj.1,by simp [Ob.ver,hj.2]⟩
  ·exact .inl hx
 ·exact ⟨w.heap.size,l,arr,t,(0,0),by simp,by simp,by simp,by simp,alloc_at w _,fun k _ _=>by omega⟩
theorem move_cells {own:Nat→Option Nat} (hR:a13 A.bld A.u8 w0 G own st w) {i g:Nat} {cs0:List AV} {fz:Nat} (hi:st[i]? = some (.cells g cs0 fz)) (arr:Array Value) (t:TypeId) (cs:List AV) (l m:List Value) (harr:arr.toList = l ++ m) (hv:VRs G cs l) (h1:∀ v ∈ l,v.oneCell' = true) :
  ∃ G',G.le G'∧Rel A.bld A.u8 w0 G' (st.set i (.cells (g + 1) cs 0)) (w.alloc (.cells arr t))∧G'.ρ i (g + 1) = some (w.heap.size,0)∧G'.Z w.heap.size = some arr.size:=by
 obtain ⟨fH,fZ,fo⟩:=hR.fresh
 have has:arr.size = l.length + m.length:=by rw [←Array.length_toList,harr,List.length_append]
 have hcl:=hv.len
 have htk:(arr.toList.drop 0).take cs.length = l:=by rw [List.drop_zero,harr,hcl,List.take_left]
 have hle:G.le { ρ:=fun i' g''=>if i' = i∧g'' = g + 1 then some (w.heap.size,0) else G.ρ i' g'',H:=G.H,Z:=fun b=>if b = w.heap.size then some arr.size else G.Z b }:=by
  refine ⟨fun i' g'' y hy=>?_,fun b l hb=>⟨[],by simpa using hb⟩,fun b n hb=>?_⟩
  ·obtain ⟨ob,ho,hv⟩:=hR.dom i' g'' y hy
   simp only
   rw [if_neg (fun e=>by obtain ⟨rfl,rfl⟩:=e; rw [hi] at ho; cases ho; simp [Ob.ver] at hv; omega)]
   exact hy
  ·simp only
   rw [if_neg (fun e=>by subst e; rw [fZ] at hb; cases hb)]
   exact hb
 refine ⟨_,hle,⟨fun k=>if k = w.heap.size then some i else own k,hR.upd (S:=fun k=>k = w.heap.size) i (.cells (g + 1) cs 0) rfl rfl rfl (by show w.heap.size ≤ (w.heap.push _).size; simp) (fun k hk=>?_) (fun k hk=>?_) hle (fun k hk=>rfl) (fun k l2 hk hl2=>?_) (fun k n hn=>?_)
  (.inl ⟨rfl,_,hi,by simp [Ob.ver]⟩) (fun k=>?_) (fun j gg x hx=>?_) ?_⟩,by simp,by simp⟩
 ·show (w.heap.push _)[k]? = _
  rw [Array.getElem?_push,if_neg hk]
 ·subst hk; exact ⟨hR.below.size, .inl fo⟩
 ·subst hk; simp only at hl2; rw [fH] at hl2; cases hl2
 ·simp only at hn
  split at hn
  ·rename_i hk; cases hn; subst hk; exact .inr ⟨arr,t,(0,0),alloc_at w _,rfl⟩
  ·rename_i hk; exact .inl ⟨hk,hn⟩
 ·by_cases hk:k = w.heap.size
  ·exact .inr ⟨hk, .inl (by simp [hk]),by subst hk; show _ < (w.heap.push _).size; simp⟩
  ·exact .inl (by simp [hk])
 ·simp only at hx
  split at hx
  ·rename_i hj; exact .inr ⟨hj.1,by simp [Ob.ver,hj.2]⟩
  ·exact .inl hx
 ·exact ⟨w.heap.size,0,arr,t,(0,0),by simp,by simp,fH,by simp,alloc_at w _,by omega,by rw [htk]; exact hv.mono hle,by rw [htk]; exact h1,fun _=>free0 _ _⟩
set_option maxHeartbeats 1000000 in
theorem g_append (hT:X1 P A) (hR:Rel A.bld A.u8 w0 G st w) {wr:Bool} {t tx ty:TypeId} {x y:AV} {xv yv:Value} {v:AV} (h:appendA A wr t tx x y st = some (v,st')) (hx:VR G x xv) (hy:VR G y yv) :
  P5 P A w0 G (Builtin.append_ #[t,tx] ty #[xv,yv]) w v st':=by
 unfold appendA at h
 cases ht:P0 t A.tab with
 | none=>simp [ht] at h
 | some td=>
 simp only [ht,Option.bind_some] at h
 obtain ⟨i,d,hi,hd,hs,_,hk,_⟩:=(hT t td ht).ok
 split at h
 case h_2=>cases h
 rename_i e hfs
 rw [hfs] at hk
 obtain rfl:=Z1 hk
 cases hte:P0 e A.tab with
 | none=>simp [hte] at h
 | some te=>
 simp only [hte,Option.bind_some] at h
 obtain ⟨ie,de,hie,hde,hse,hbe,hke,z,hz,hzr,hag,hnag,hzl⟩:=(hT e te hte).ok
 obtain ⟨z1,z2,z3⟩:=Y1 hzr hzl G
 cases hsr:srcStr A te tx with
 | none=>simp [hsr] at h
 | some b=>
 simp only [hsr,Option.bind_some] at h
 unfold X6 at h
 cases hta:T6 b te.size st y with
 | none=>simp [hta] at h
 | some p=>
 obtain ⟨new,n⟩:=p
 simp only [hta,Option.bind_some] at h
 have hsz1:isU8 te = true→te.size = 1:=by
  intro hu
  have:td.isAgg = td.isAgg:=rfl
  have ha:te.isAgg = false:=by unfold isU8 at hu; unfold TD.isAgg; split at hu <;> simp_all
  have h1:=hnag ha
  have h2:=z2
  rw [cells_one h1] at h2
  simpa using h2.symm
 obtain ⟨news,hsrc,hnv⟩:=tailOf_sound hT hR hsr hta hy hsz1
 have hsrc':Src P ie.size tx yv n news w:=by rw [hse]; exact hsrc
 have hnl:news.length = n * te.size:=hsrc.newsLen
 have hnl':new.length = n * te.size:=by rw [hnv.len,hnl]
 have grow:∀ (base:Option Addr) (len cap:Nat) (olds:List Value) (row:List AV),VRs G row olds→(∀ v ∈ olds,v.oneCell' = true)→olds.length = len * te.size→(Builtin.firstCells ie.size len (.slice base len cap)).run P w.drew = .ok olds.toArray w.drew →
   cap < len + n→room te.bytes (len + n) = true →
   ∃ arr cap',(Builtin.append_ #[t,tx] ty #[.slice base len cap,yv]).run P w = .ok (.slice (some ⟨w.heap.size,0,none⟩) (len + n) cap') (w.drew.alloc (.cells arr e))∧len + n ≤ cap'∧arr.size = cap' * te.size ∧
    (∃ m,arr.toList = (olds ++ news) ++ m)∧VRs G (row ++ new) (olds ++ news)∧(olds ++ news).length = (len + n) * te.size∧∀ v ∈ olds ++ news,v.oneCell' = true:=by
  intro base len cap olds row hvo hone hlo hfc hcap hroom
  obtain ⟨r1,r2⟩:=room_spec hroom
  have hrun:=run_append_grow_src w t tx ty e ie z hd hie hz base len cap olds hfc yv n news hsrc' hcap (by omega) (growslice_fits hcap (by rw [hbe]; exact r1))
  refine ⟨_,_,hrun,grownCap_ge _ _ _ _,?_,⟨_,by rw [Array.toList_append]⟩,hvo.append hnv,by rw [List.length_append,hlo,hnl,Nat.add_mul],fun v hv=>?_⟩
  ·rw [Array.size_append,a4g,z2]
   simp only [List.size_toArray,List.length_append,hlo,hnl]
   have:=grownCap_ge w (len + n) cap e
   rw [Nat.sub_mul,←Nat.add_mul]
   have:=Nat.mul_le_mul_right te.size this
   omega
  ·rcases List.mem_append.1 hv with hv | hv
   ·exact hone v hv
   ·exact hsrc.one v hv
 have drew:Rel A.bld A.u8 w0 G st w.drew:=a1t hR _
 have hsd:w.drew.heap.size = w.heap.size:=rfl
 have newtip:∀ (base:Option Addr) (len cap:Nat) (olds:List Value) (row:List AV),VRs G row olds→(∀ v ∈ olds,v.oneCell' = true)→olds.length = len * te.size→(Builtin.firstCells ie.size len (.slice base len cap)).run P w.drew = .ok olds.toArray w.drew →
   cap < len + n→room te.bytes (len + n) = true→P5 P A w0 G (Builtin.append_ #[t,tx] ty #[.slice base len cap,yv]) w (.is (row ++ new) (len + n) (.tip st.length 0 te.size)) (st ++ [.tip 0]):=by
  intro base len cap olds row a1 a2 a3 a4 a5 a6
  obtain ⟨arr,cap',hrun,b1,b2,⟨m,b3⟩,b4,b5,b6⟩:=grow base len cap olds row a1 a2 a3 a4 a5 a6
  obtain ⟨G',k1,k2,k3,k4,k5⟩:=rel_newtip drew (olds ++ news) m arr b3 e
  have hlr:(row ++ new).length = (olds ++ news).length:=b4.len
  refine ⟨_,_,G',hrun,k1,k2, .is _ _ _ w.heap.size 0 cap' (olds ++ news) k5 (by omega) b1 ⟨⟨_,_,k3⟩, .inr ⟨?_,by rw [hlr,b5],_,k4,by rw [b2]; omega⟩⟩ (fun j a v ha hv=>(b4.mono k1).at_ j a v ha (by simpa using hv)) (fun j v _ hv=>b6 v (List.mem_of_getElem? hv))⟩
  rw [k3,hlr,Nat.zero_add]
  rfl
 have newms:∀ (base:Option Addr) (len cap:Nat) (olds:List Value) (row:List AV),VRs G row olds→(∀ v ∈ olds,v.oneCell' = true)→olds.length = len * te.size→(Builtin.firstCells ie.size len (.slice base len cap)).run P w.drew = .ok olds.toArray w.drew →
   cap < len + n→room te.bytes (len + n) = true→P5 P A w0 G (Builtin.append_ #[t,tx] ty #[.slice base len cap,yv]) w (.ms st.length 0 0 (len + n) te.size) (st ++ [.cells 0 (row ++ new) 0]):=by
  intro base len cap olds row a1 a2 a3 a4 a5 a6
  obtain ⟨arr,cap',hrun,b1,b2,⟨m,b3⟩,b4,b5,b6⟩:=grow base len cap olds row a1 a2 a3 a4 a5 a6
  have hlr:(row ++ new).length = (olds ++ news).length:=b4.len
  have has:arr.size = (olds ++ news).length + m.length:=by rw [←Array.length_toList,b3,List.length_append]
  have htk:(arr.toList.drop 0).take (row ++ new).length = olds ++ news:=by rw [List.drop_zero,b3,hlr,List.take_left]
  obtain ⟨G',k1,k2,k3,k4⟩:=W7 drew arr e (0,0) (row ++ new) 0 0 (by omega) (by rw [htk]; exact b4) (by rw [htk]; exact b6) (free0 _ _)
  exact ⟨_,_,G',hrun,k1,k2, .ms _ 0 0 _ te.size _ 0 cap' _ k3 b1 (.inr ⟨rfl,_,k4,by rw [b2]; omega⟩)⟩
 have same0:n = 0→∀ a len cap,xv = .slice a len cap→len ≤ cap→(cap ≠ 0∨True)→(Builtin.append_ #[t,tx] ty #[xv,yv]).run P w = .ok xv w:=by
  intro hn a len cap hxv hlc _
  subst hxv
  have hnn:news = []:=List.eq_nil_of_length_eq_zero (by rw [hnl,hn]; simp)
  subst hn
  have hnd:len + 0 ≤ cap:=by omega
  have hcells:=hsrc'.cells
  rw [hnn] at hcells
  rcases hsrc'.kind with ⟨e',hk'⟩ | hk' <;> cases a <;> simp [Builtin.append_,run_underlying hd,run_underlying hk',sizeOf,typeInfo,hie,hsrc'.len,hlc,hcells,storeCells]
 split at h
 ·-- nil
  cases hx
  split at h
  ·rename_i hn
   simp only [Option.some.injEq,Prod.mk.injEq] at h
   obtain ⟨rfl,rfl⟩:=h
   exact P5.same hR (same0 hn _ _ _ rfl (Nat.le_refl _) (.inr trivial)) .nils
  ·rename_i hn
   split at h
   ·rename_i hroom
    have hfc:(Builtin.firstCells ie.size 0 (.slice none 0 0)).run P w.drew = .ok ([]:List Value).toArray w.drew:=rfl
    split at h
    ·simp only [Option.some.injEq,Prod.mk.injEq] at h
     obtain ⟨rfl,rfl⟩:=h
     have:=newms none 0 0 [] [] (VRs.nil G) (by simp) (by simp) hfc (by omega) (by simpa using hroom)
     simpa using this
    ·simp only [Option.some.injEq,Prod.mk.injEq] at h
     obtain ⟨rfl,rfl⟩:=h
     have:=newtip none 0 0 [] [] (VRs.nil G) (by simp) (by simp) hfc (by omega) (by simpa using hroom)
     simpa using this
   ·cases h
 ·-- a full row
  rename_i row len
  cases hx with
  | is _ _ _ b o cap l hH hlen hc htk hh h1=>
   simp only [TokR] at htk
   subst htk
   split at h
   ·rename_i hn
    simp only [Option.some.injEq,Prod.mk.injEq] at h
    obtain ⟨rfl,rfl⟩:=h
    exact P5.same hR (same0 hn _ _ _ rfl (Nat.le_refl _) (.inr trivial)) (.is _ _ _ b o cap l hH hlen hc rfl hh h1)
   ·rename_i hn
    split at h
    ·rename_i hcond
     obtain ⟨hrl,hroom⟩:=hcond
     have hrow:rowOf st te.size (.is row cap .full) = some row:=by simp [rowOf,hrl]
     obtain ⟨a,l2,c2,vs,hh2⟩:=Z9 drew hrow (.is row cap .full b o cap l hH hlen hc rfl hh h1)
     rcases hh2 with ⟨heq,q1,q2,q3,q4⟩ | ⟨hr0,a,cx,heq⟩
     ·cases heq
      rcases q4 with ⟨q5,_⟩ | ⟨b',o',q5,q6,q7⟩
      ·cases q5
      ·cases q5
       have hfc:(Builtin.firstCells ie.size cap (.slice (some ⟨b,o,none⟩) cap cap)).run P w.drew = .ok vs.toArray w.drew:=
        run_firstCells_some w.drew ie.size cap ⟨b,o,none⟩ cap cap vs (by rw [hse,←q1,q2.len]) (fun j v hv=>by rw [add_lit]; exact q7 j v hv)
       have hvl:vs.length = cap * te.size:=by rw [←q2.len,q1]
       split at h
       ·simp only [Option.some.injEq,Prod.mk.injEq] at h
        obtain ⟨rfl,rfl⟩:=h
        exact newms _ cap cap vs row q2 q3 hvl hfc (by omega) hroom
       ·simp only [Option.some.injEq,Prod.mk.injEq] at h
        obtain ⟨rfl,rfl⟩:=h
        exact newtip _ cap cap vs row q2 q3 hvl hfc (by omega) hroom
     ·cases heq
      have hfc:(Builtin.firstCells ie.size 0 (.slice (some ⟨b,o,none⟩) 0 0)).run P w.drew = .ok ([]:List Value).toArray w.drew:=
       run_firstCells_some w.drew ie.size 0 ⟨b,o,none⟩ 0 0 [] (by simp) (by simp)
      subst hr0
      split at h
      ·simp only [Option.some.injEq,Prod.mk.injEq] at h
       obtain ⟨rfl,rfl⟩:=h
       exact newms _ 0 0 [] [] (VRs.nil G) (by simp) (by simp) hfc (by omega) (by simpa using hroom)
      ·simp only [Option.some.injEq,Prod.mk.injEq] at h
       obtain ⟨rfl,rfl⟩:=h
       exact newtip _ 0 0 [] [] (VRs.nil G) (by simp) (by simp) hfc (by omega) (by simpa using hroom)
    ·cases h
 ·-- a row with its tip
  rename_i row len ti g es
  split at h
  case isFalse=>cases h
  rename_i hcond
  obtain ⟨hrl,rfl,hroom⟩:=hcond
  split at h
  case h_2=>cases h
  rename_i g' hti
  split at h
  case isFalse=>cases h
  rename_i hg
  subst hg
  simp only [Option.some.injEq,Prod.mk.injEq] at h
  obtain ⟨rfl,rfl⟩:=h
  cases hx with
  | is _ _ _ b o cap l hH hlen hc htk hh h1=>
  by_cases hroomy:len + n ≤ cap
  ·by_cases hcap:cap = len
   ·-- nothing is put behind
    have hn:n = 0:=by omega
    have hnew:new = []:=List.eq_nil_of_length_eq_zero (by rw [hnl',hn]; simp)
    subst hnew
    obtain ⟨own,hRo⟩:=hR
    obtain ⟨G',k1,k2⟩:=bump_tip hRo hti
    refine ⟨_,_,G',same0 hn _ _ _ rfl hc (.inr trivial),k1,⟨own,k2⟩,?_⟩
    rw [List.append_nil,hn]
    exact VR.mono k1 (.is _ _ _ b o cap l hH hlen hc ⟨htk.1, .inl hcap⟩ hh h1)
   ·rcases htk.2 with htk | ⟨t1,t2,nz,t3,t4⟩
    ·exact absurd htk hcap
    ·obtain ⟨own,hRo⟩:=hR
     obtain ⟨b',l',arr,tt,fr,u1,u2,u3,u4,u5,u6⟩:=hRo.obj ti _ hti
     rw [t1] at u1
     simp only [Option.some.injEq,Prod.mk.injEq] at u1
     obtain ⟨rfl,hll⟩:=u1
     rw [hH] at u3
     cases u3
     rw [t3] at u4
     cases u4
     have hmul:(len + n) * te.size ≤ cap * te.size:=Nat.mul_le_mul_right _ hroomy
     rw [Nat.add_mul] at hmul
     have hrun:=run_append_room_src w t tx ty e ie hd hie b o len cap yv n news hsrc' hroomy
      (fun j hj=>by rw [a0j u5,Array.getElem?_eq_getElem (by rw [hse]; omega)]; rfl)
      (fun j hj=>by
       have:=u6 (o + len * ie.size + j) (by rw [hse]; omega) (by rw [hse]; omega)
       obtain ⟨lo,hi'⟩:=fr
       simp only at this
       simp only [World.frozen?,u5,Bool.and_eq_false_iff,decide_eq_false_iff_not]
       omega)
     rw [hse] at hrun
     have hll':o + len * te.size = l.length:=by omega
     obtain ⟨arr0,tt0,fr0,m,v1,v2⟩:=hRo.prot b l hH
     rw [u5] at v1
     cases v1
     have hasz:arr.size = l.length + m.length:=by rw [←Array.length_toList,v2,List.length_append]
     have hspl:splice arr.toList (o + len * te.size) news = (l ++ news) ++ m.drop news.length:=by
      rw [hll',v2]
      unfold splice
      rw [List.take_left,List.drop_append,List.drop_of_length_le (by omega),List.nil_append,List.append_assoc]
      congr 3
      omega
     have hb:=a0t b tt fr news (o + len * te.size) w arr u5 (by omega)
     rw [hspl] at hb
     have hsm:=a0v b news (o + len * te.size) w
     have hle:G.le { ρ:=fun i' g''=>if i' = ti∧g'' = g' + 1 then some (b,l.length + n * te.size) else G.ρ i' g'',H:=fun k=>if k = b then some (l ++ news) else G.H k,Z:=G.Z }:=by
      refine ⟨fun i' g'' x hx=>?_,fun k l2 hk2=>?_,fun _ _ hx=>hx⟩
      ·obtain ⟨ob,ho,hv⟩:=hRo.dom i' g'' x hx
       simp only
       rw [if_neg (fun e=>by obtain ⟨rfl,rfl⟩:=e; rw [hti] at ho; cases ho; simp [Ob.ver] at hv; omega)]
       exact hx
      ·by_cases hkb:k = b
       ·subst hkb; rw [hH] at hk2; cases hk2; exact ⟨news,by simp⟩
       ·exact ⟨[],by simp [hkb,hk2]⟩
     refine ⟨_,_,_,hrun,hle,⟨own,hRo.upd (S:=fun k=>k = b) ti (.tip (g' + 1)) hsm.1 hsm.2.1 hsm.2.2.1 (by rw [hsm.2.2.2]; exact Nat.le_refl _) (fun k hk=>a0D b news _ w k hk) (fun k hk=>?_) hle (fun k hk=>by simp [hk])
      (fun k l2 hk hl2=>?_) (fun k nn hnn=>?_) (.inl ⟨rfl,_,hti,by simp [Ob.ver]⟩) (fun k => .inl rfl) (fun j gg x hx=>?_) ?_⟩,?_⟩
     ·subst hk; exact ⟨(hRo.ownlt _ _ u2).1, .inr u2⟩
     ·subst hk
      simp only [if_true,Option.some.injEq] at hl2
      subst hl2
      exact ⟨_,tt,fr,m.drop news.length,hb,by simp⟩
     ·by_cases hkb:k = b
      ·subst hkb
       simp only at hnn
       rw [t3] at hnn
       cases hnn
       exact .inr ⟨_,tt,fr,hb,by simp; omega⟩
      ·exact .inl ⟨hkb,hnn⟩
     ·simp only at hx
      split at hx
      ·rename_i hj; exact .inr ⟨hj.1,by simp [Ob.ver,hj.2]⟩
      ·exact .inl hx
     ·refine ⟨b,l ++ news,_,tt,fr,by simp [hnl],u2,by simp,?_,hb,fun k hk1 hk2=>?_⟩
      ·simp only [t3,List.size_toArray,List.length_append,List.length_drop,Option.some.injEq]; omega
      ·simp only [List.length_append,hnl] at hk1
       simp only [List.size_toArray,List.length_append,List.length_drop] at hk2
       exact u6 k (by omega) (by omega)
     ·refine .is _ _ _ b o cap (l ++ news) (by simp) (by simp; omega) hroomy ⟨⟨g' + 1,_,if_pos ⟨rfl,rfl⟩⟩, .inr ⟨?_,?_,_,t3,t4⟩⟩ (fun j a v ha hv=>?_) (fun j v hj hv=>?_)
      ·simp only [List.length_append,hnl',and_self,if_true,Option.some.injEq,Prod.mk.injEq,true_and]
       omega
      ·rw [List.length_append,hrl,hnl',Nat.add_mul]
      ·by_cases hj:j < row.length
       ·rw [List.getElem?_append_left hj] at ha
        rw [List.getElem?_append_left (by omega)] at hv
        exact (hh j a v ha hv).mono hle
       ·rw [List.getElem?_append_right (by omega)] at ha
        rw [List.getElem?_append_right (by omega)] at hv
        exact (hnv.mono hle).at_ _ a v ha (by rw [←hv]; congr 1; omega)
      ·by_cases hj2:j < row.length
       ·rw [List.getElem?_append_left (by omega)] at hv
        exact h1 j v hj2 hv
       ·rw [List.getElem?_append_right (by omega)] at hv
        exact hsrc.one v (List.mem_of_getElem? hv)
  ·-- a new row
   have hrow:rowOf st te.size (.is row len (.tip ti g' te.size)) = some row:=by simp [rowOf,hrl]
   obtain ⟨a,l2,c2,vs,hh2⟩:=Z9 drew hrow (.is row len (.tip ti g' te.size) b o cap l hH hlen hc htk hh h1)
   have fin:∀ (vs:List Value),VRs G row vs→(∀ v ∈ vs,v.oneCell' = true)→vs.length = len * te.size→(Builtin.firstCells ie.size len (.slice (some ⟨b,o,none⟩) len cap)).run P w.drew = .ok vs.toArray w.drew →
     P5 P A w0 G (Builtin.append_ #[t,tx] ty #[.slice (some ⟨b,o,none⟩) len cap,yv]) w (.is (row ++ new) (len + n) (.tip ti (g' + 1) te.size)) (st.set ti (.tip (g' + 1))):=by
    intro vs q2 q3 hvl hfc
    obtain ⟨arr,cap',hrun,b1,b2,⟨m,b3⟩,b4,b5,b6⟩:=grow _ len cap vs row q2 q3 hvl hfc (by omega) hroom
    obtain ⟨own,hRo⟩:=drew
    obtain ⟨G',k1,k2,k3,k4,k5⟩:=move_tip hRo hti (vs ++ news) m arr b3 e
    have hlr:(row ++ new).length = (vs ++ news).length:=b4.len
    refine ⟨_,_,G',hrun,k1,k2, .is _ _ _ w.heap.size 0 cap' (vs ++ news) k5 (by omega) b1 ⟨⟨_,_,k3⟩, .inr ⟨?_,by rw [hlr,b5],_,k4,by rw [b2]; omega⟩⟩ (fun j a v ha hv=>(b4.mono k1).at_ j a v ha (by simpa using hv)) (fun j v _ hv=>b6 v (List.mem_of_getElem? hv))⟩
    rw [k3,hlr,Nat.zero_add]
    rfl
   rcases hh2 with ⟨heq,q1,q2,q3,q4⟩ | ⟨hr0,a,cx,heq⟩
   ·cases heq
    rcases q4 with ⟨q5,_⟩ | ⟨b',o',q5,q6,q7⟩
    ·cases q5
    ·cases q5
     have hvl:vs.length = len * te.size:=by rw [←q2.len,q1]
     exact fin vs q2 q3 hvl (run_firstCells_some w.drew ie.size len ⟨b,o,none⟩ len cap vs (by rw [hse,hvl]) (fun j v hv=>by rw [add_lit]; exact q7 j v hv))
   ·cases heq
    subst hr0
    exact fin [] (VRs.nil G) (by simp) (by simp) (run_firstCells_some w.drew ie.size 0 ⟨b,o,none⟩ 0 0 [] (by simp) (by simp))
 ·-- an array
  rename_i ti g off len es
  split at h
  case isFalse=>cases h
  rename_i hcond
  obtain ⟨rfl,hroom⟩:=hcond
  split at h
  case h_2=>cases h
  rename_i g' cs fz hti
  split at h
  case isFalse=>cases h
  rename_i hg
  obtain ⟨rfl,hcl,rfl⟩:=hg
  simp only [Option.some.injEq,Prod.mk.injEq] at h
  obtain ⟨rfl,rfl⟩:=h
  obtain ⟨own,hRo⟩:=hR
  obtain ⟨b,o,arr,tt,fr,u1,u2,u3,u4,u5,u6,u7,u9,u8'⟩:=hRo.obj ti _ hti
  have u8:=u8' (Nat.zero_le _)
  cases hx with
  | ms _ _ _ _ _ b' o' cap a hρ hc ha=>
  rw [u1] at hρ
  cases hρ
  have hcs:((cs.drop off).take (len * te.size)).length = len * te.size:=by simp; omega
  have hleG:∀ (x:Nat × Nat),G.le { ρ:=fun i' g''=>if i' = ti∧g'' = g' + 1 then some x else G.ρ i' g'',H:=G.H,Z:=G.Z }:=by
   intro x
   refine ⟨fun i' g'' y hy=>?_,fun k l2 hk2=>⟨[],by simpa using hk2⟩,fun _ _ hx=>hx⟩
   obtain ⟨ob,ho,hv⟩:=hRo.dom i' g'' y hy
   simp only
   rw [if_neg (fun e=>by obtain ⟨rfl,rfl⟩:=e; rw [hti] at ho; cases ho; simp [Ob.ver] at hv; omega)]
   exact hy
  have hpart:((arr.toList.drop (o + off)).take (len * te.size)) = (((arr.toList.drop o).take cs.length).drop off).take (len * te.size):=by
   rw [List.drop_take,List.take_take,List.drop_drop]
   congr 1
   omega
  have hpartV:VRs G ((cs.drop off).take (len * te.size)) ((arr.toList.drop (o + off)).take (len * te.size)):=by rw [hpart]; exact (u7.drop off).take _
  have hpart1:∀ v ∈ (arr.toList.drop (o + off)).take (len * te.size),v.oneCell' = true:=by rw [hpart]; exact fun v hv=>u9 v (List.mem_of_mem_drop (List.mem_of_mem_take hv))
  have hplen:((arr.toList.drop (o + off)).take (len * te.size)).length = len * te.size:=by rw [←hpartV.len,hcs]
  by_cases hroomy:len + n ≤ cap
  ·rcases ha with ha | ⟨rfl,nz,t3,t4⟩
   ·-- nothing is there,nothing is put behind
    subst ha
    have hn:n = 0:=by omega
    have hl0:len = 0:=by omega
    subst hl0
    have hnew:new = []:=List.eq_nil_of_length_eq_zero (by rw [hnl',hn]; simp)
    subst hnew
    refine ⟨_,_,_,same0 hn _ _ _ rfl hc (.inr trivial),hleG (b,o),⟨own,hRo.upd (S:=fun _=>False) ti _ rfl rfl rfl (Nat.le_refl _) (fun _ _=>rfl) (fun _ h=>h.elim) (hleG (b,o)) (fun _ _=>rfl) (fun _ _ h=>h.elim) (fun k nn hnn => .inl ⟨id,hnn⟩)
     (.inl ⟨rfl,_,hti,by simp [Ob.ver]⟩) (fun _ => .inl rfl) (fun j gg x hx=>?_) ?_⟩,?_⟩
    ·simp only at hx
     split at hx
     ·rename_i hj; exact .inr ⟨hj.1,by simp [Ob.ver,hj.2]⟩
     ·exact .inl hx
    ·refine ⟨b,o,arr,tt,fr,by simp,u2,u3,u4,u5,by simp; omega,by simpa using VRs.nil _,by simp,fun _=>u8⟩
    ·rw [hn]
     exact .ms _ _ _ _ _ b o 0 a (by simp) (Nat.le_refl _) (.inl rfl)
   ·rw [u4] at t3
    cases t3
    have hmul:(len + n) * te.size ≤ cap * te.size:=Nat.mul_le_mul_right _ hroomy
    rw [Nat.add_mul] at hmul
    have hrun:=run_append_room_src w t tx ty e ie hd hie b (o + off) len cap yv n news hsrc' hroomy
     (fun j hj=>by rw [a0j u5,Array.getElem?_eq_getElem (by rw [hse]; omega)]; rfl)
     (fun j hj=>by
      have:=u8 (o + off + len * ie.size + j) (by omega) (by rw [hse]; omega)
      obtain ⟨lo,hi'⟩:=fr
      simp only at this
      simp only [World.frozen?,u5,Bool.and_eq_false_iff,decide_eq_false_iff_not]
      omega)
    rw [hse] at hrun
    have hb:=a0t b tt fr news (o + off + len * te.size) w arr u5 (by omega)
    have hsl:(splice arr.toList (o + off + len * te.size) news).length = arr.size:=by rw [W8 _ _ _ (by simp; omega)]; simp
    have hsm:=a0v b news (o + off + len * te.size) w
    have hle:=hleG (b,o + off)
    have hnewpart:((splice arr.toList (o + off + len * te.size) news).drop (o + off)).take (len * te.size + n * te.size) = (arr.toList.drop (o + off)).take (len * te.size) ++ news:=by
     rw [a4w _ _ _ _ _ (by simp; omega) (by omega)]
     unfold splice
     have hd0:((arr.toList.drop (o + off)).take (len * te.size + n * te.size)).drop (len * te.size + news.length) = []:=List.drop_of_length_le (by simp; omega)
     rw [List.take_take,Nat.min_eq_left (by omega),hd0,List.append_nil]
    refine ⟨_,_,_,hrun,hle,⟨own,hRo.upd (S:=fun k=>k = b) ti (.cells (g' + 1) ((cs.drop off).take (len * te.size) ++ new) 0) hsm.1 hsm.2.1 hsm.2.2.1 (by rw [hsm.2.2.2]; exact Nat.le_refl _) (fun k hk=>a0D b news _ w k hk) (fun k hk=>?_) hle (fun _ _=>rfl)
     (fun k l2 hk hl2=>?_) (fun k nn hnn=>?_) (.inl ⟨rfl,_,hti,by simp [Ob.ver]⟩) (fun k => .inl rfl) (fun j gg x hx=>?_) ?_⟩,?_⟩
    ·subst hk; exact ⟨(hRo.ownlt _ _ u2).1, .inr u2⟩
    ·subst hk; simp only at hl2; rw [u3] at hl2; cases hl2
    ·by_cases hkb:k = b
     ·subst hkb
      simp only at hnn
      rw [u4] at hnn
      cases hnn
      exact .inr ⟨_,tt,fr,hb,by simpa using hsl⟩
     ·exact .inl ⟨hkb,hnn⟩
    ·simp only at hx
     split at hx
     ·rename_i hj; exact .inr ⟨hj.1,by simp [Ob.ver,hj.2]⟩
     ·exact .inl hx
    ·have e1:((cs.drop off).take (len * te.size) ++ new).length = len * te.size + n * te.size:=by rw [List.length_append,hcs,hnl']
     refine ⟨b,o + off,_,tt,fr,by simp,u2,u3,by simpa [hsl] using u4,hb,by rw [e1]; simp only [List.size_toArray,hsl]; omega,?_,?_,fun _ k hk1 hk2=>?_⟩
     ·rw [e1]
      simp only [List.toList_toArray,hnewpart]
      exact (hpartV.append hnv).mono hle
     ·rw [e1]
      simp only [List.toList_toArray,hnewpart]
      intro v hv
      rcases List.mem_append.1 hv with hv | hv
      ·exact hpart1 v hv
      ·exact hsrc.one v hv
     ·simp only [List.size_toArray,hsl] at hk2
      exact u8 k (by omega) hk2
    ·refine .ms _ _ _ _ _ b (o + off) cap _ (by simp) hroomy (.inr ⟨rfl,_,u4,by omega⟩)
  ·-- a new array
   have hrow:rowOf st te.size (.ms ti g' off len te.size) = some ((cs.drop off).take (len * te.size)):=by simp [rowOf,hti,hcl]
   have fin:∀ (vs:List Value),VRs G ((cs.drop off).take (len * te.size)) vs→(∀ v ∈ vs,v.oneCell' = true)→vs.length = len * te.size→(Builtin.firstCells ie.size len (.slice (some a) len cap)).run P w.drew = .ok vs.toArray w.drew →
     P5 P A w0 G (Builtin.append_ #[t,tx] ty #[.slice (some a) len cap,yv]) w (.ms ti (g' + 1) 0 (len + n) te.size) (st.set ti (.cells (g' + 1) ((cs.drop off).take (len * te.size) ++ new) 0)):=by
    intro vs q2 q3 hvl hfc
    obtain ⟨arr',cap',hrun,b1,b2,⟨m,b3⟩,b4,b5,b6⟩:=grow _ len cap vs _ q2 q3 hvl hfc (by omega) hroom
    obtain ⟨own',hRo'⟩:=drew
    have has:arr'.size = (vs ++ news).length + m.length:=by rw [←Array.length_toList,b3,List.length_append]
    obtain ⟨G',k1,k2,k3,k4⟩:=move_cells hRo' hti arr' e ((cs.drop off).take (len * te.size) ++ new) (vs ++ news) m b3 b4 b6
    exact ⟨_,_,G',hrun,k1,k2, .ms _ _ 0 _ te.size _ 0 cap' _ k3 b1 (.inr ⟨rfl,_,k4,by rw [b2]; omega⟩)⟩
   obtain ⟨a',l2,c2,vs,hh2⟩:=Z9 drew hrow (.ms ti g' off len te.size b o cap a u1 hc ha)
   rcases hh2 with ⟨heq,q1,q2,q3,q4⟩ | ⟨hr0,a,cx,heq⟩
   ·cases heq
    rcases q4 with ⟨q5,_⟩ | ⟨b',o',q5,q6,q7⟩
    ·cases q5
    ·cases q5
     have hvl:vs.length = len * te.size:=by rw [←q2.len,q1]
     exact fin vs q2 q3 hvl (run_firstCells_some w.drew ie.size len ⟨b',o',none⟩ len cap vs (by rw [hse,hvl]) (fun j v hv=>by rw [add_lit]; exact q7 j v hv))
   ·cases heq
    rw [hr0] at fin
    have:=fin [] (VRs.nil G) (by simp) (by simp) (run_firstCells_some w.drew ie.size 0 a 0 cap [] (by simp) (by simp))
    simpa using this
 ·cases h
end
end Go.St
namespace Go.St
open Go.RowKit
set_option linter.unusedVariables false
set_option linter.unusedSimpArgs false
section
variable {P:Program} {A:P2} {w0:World} {G:Gh} {st st':Sto} {w:World} {R:Type}
theorem VRs.tup {as:List AV} {vs:Array Value} (h:VRs G as vs.toList):VR G (.tup as) (.tuple vs) := .tup as vs (by simpa using h.len) fun j a v ha hv=>h.at_ j a v ha (by simpa using hv)
theorem textOf_row:∀ {row:List AV} {l:List UInt8},textOf row = some l→∃ ns:List Int,row = ns.map (AV.int .u8)∧l = ns.map fun n=>UInt8.ofNat n.toNat:=by
 intro row
 induction row with
 | nil=>intro l h; simp [textOf] at h; subst h; exact ⟨[],rfl,rfl⟩
 | cons a r ih=>
  intro l h
  unfold textOf at h
  split at h
  ·rename_i e; cases e
  ·rename_i n r' e
   cases e
   cases hr:textOf r with
   | none=>simp [hr] at h
   | some l'=>
    simp only [hr,Option.bind_some,Option.some.injEq] at h
    obtain ⟨ns,h1,h2⟩:=ih hr
    exact ⟨n :: ns,by simp [h1],by simp [←h,h2]⟩
  ·cases h
theorem foldl_push (ns:List Int):∀ r:ByteArray,ns.foldl (fun r n=>r.push (UInt8.ofNat n.toNat)) r = ⟨r.data ++ (ns.map fun n=>UInt8.ofNat n.toNat).toArray⟩:=by
 induction ns with
 | nil=>intro r; simp
 | cons n ns ih=>intro r; simp only [List.foldl_cons,ih]; simp [ByteArray.push]
theorem VRs_ints:∀ {ns:List Int} {vs:List Value},VRs G (ns.map (AV.int .u8)) vs→vs = ns.map (Value.int .u8):=by
 intro ns
 induction ns with
 | nil=>intro vs h; exact List.eq_nil_of_length_eq_zero (by simpa using h.len.symm)
 | cons n ns ih=>
  intro vs h
  obtain ⟨v,ws,rfl,h1,h2⟩:=h.head
  cases h1
  rw [ih h2]
  rfl
theorem g_toText (hR:Rel A.bld A.u8 w0 G st w) {x:AV} {xv:Value} {s:ByteArray} (h:toText st x = some s) (hx:VR G x xv) {src dst e:TypeId} (hs:P.underlying src = some (.slice e)) (he:P.underlying e = some (.int .u8)) (hd:P.underlying dst = some .string) :
  P5 P A w0 G (convert src dst xv) w (.str s) st:=by
 unfold toText at h
 cases hr:rowOf st 1 x with
 | none=>simp [hr] at h
 | some row=>
  simp only [hr,Option.bind_some] at h
  cases ht:textOf row with
  | none=>simp [ht] at h
  | some l=>
   simp only [ht,Option.bind_some,Option.some.injEq] at h
   subst h
   obtain ⟨ns,rfl,rfl⟩:=textOf_row ht
   obtain ⟨a,len,cap,vs,hh⟩:=Z9 hR hr hx
   rcases hh with ⟨rfl,h1,h2,h3,h4⟩ | ⟨h1,a,cap,rfl⟩
   ·obtain rfl:=VRs_ints h2
    rcases h4 with ⟨rfl,rfl,rfl⟩ | ⟨b,o,rfl,h5,h6⟩
    ·have:ns = []:=by simpa using h1
     subst this
     refine P5.same hR (v' := .string ByteArray.empty) ?_ (.str _)
     rw [run_convert_bytes_string w src dst e _ _ _ hs he hd]
     rfl
    ·refine P5.same hR (v' := .string ⟨(ns.map fun n=>UInt8.ofNat n.toNat).toArray⟩) ?_ (.str _)
     rw [run_convert_bytes_string w src dst e _ _ _ hs he hd,run_bytesToString w ⟨b,o,none⟩ len cap ns ?_,foldl_push]
     ·simp
     ·have hl:len = (ns.map (Value.int .u8)).length:=by simpa using h1.symm
      rw [hl]
      exact run_loadCells_list w ⟨b,o,none⟩ _ fun j v hj=>by rw [add_lit]; exact h6 j v hj
   ·have:ns = []:=by simpa using h1
    subst this
    refine P5.same hR (v' := .string ByteArray.empty) ?_ (.str _)
    rw [run_convert_bytes_string w src dst e _ _ _ hs he hd,run_bytesToString w a 0 cap [] rfl]
    rfl
theorem g_toBytes (hR:Rel A.bld A.u8 w0 G st w) {wr:Bool} {s:ByteArray} {v:AV} (h:toBytes wr s st = some (v,st')) {src dst e:TypeId} (hs:P.underlying src = some .string) (hd:P.underlying dst = some (.slice e)) (he:P.underlying e = some (.int .u8)) :
  P5 P A w0 G (convert src dst (.string s)) w v st':=by
 unfold toBytes at h
 split at h
 ·have hrun:=run_bytes_of_string w src dst e s hs hd he
  have hge:=grownCap_ge w s.size 0 e
  have hsl:s.data.toList.length = s.size:=by rw [Array.length_toList]; rfl
  have hsz:(bytesRow s (grownCap w s.size 0 e)).size = grownCap w s.size 0 e:=by simp [bytesRow]; have:s.data.size = s.size:=rfl; omega
  have hrow:(bytesRow s (grownCap w s.size 0 e)).toList = byteCells s ++ List.replicate (grownCap w s.size 0 e - s.size) (.int .u8 0):=by simp [bytesRow,byteCells]
  have hbl:=byteCells_length s
  have hal:(a0p s).length = s.size:=by rw [(a0i s G).len,hbl]
  split at h
  ·simp only [Option.some.injEq,Prod.mk.injEq] at h
   obtain ⟨rfl,rfl⟩:=h
   have htk:((bytesRow s (grownCap w s.size 0 e)).toList.drop 0).take (a0p s).length = byteCells s:=by rw [List.drop_zero,hrow,hal,←hbl,List.take_left]
   obtain ⟨G',k1,k2,k3,k4⟩:=W7 (a1t hR (w.drawn + 1)) (bytesRow s (grownCap w s.size 0 e)) e ((bytesRow s (grownCap w s.size 0 e)).size,(bytesRow s (grownCap w s.size 0 e)).size + 1) (a0p s) 0 0 (by omega)
    (by rw [htk]; exact a0i s G) (by rw [htk]; intro v hv; unfold byteCells at hv; obtain ⟨_,_,rfl⟩:=List.mem_map.1 hv; rfl) (fun k _ hk=>by simp only; omega)
   exact ⟨_,_,G',hrun,k1,k2, .ms _ 0 0 _ 1 _ 0 _ _ k3 hge (.inr ⟨rfl,_,k4,by omega⟩)⟩
  ·simp only [Option.some.injEq,Prod.mk.injEq] at h
   obtain ⟨rfl,rfl⟩:=h
   obtain ⟨G',k1,k2,k3,k4⟩:=a4E (a1t hR (w.drawn + 1)) (bytesRow s (grownCap w s.size 0 e)) e ((bytesRow s (grownCap w s.size 0 e)).size,(bytesRow s (grownCap w s.size 0 e)).size + 1)
   rw [hrow] at k3
   refine ⟨_,_,G',hrun,k1,k2, .is _ _ _ _ 0 _ _ k3 (by simp; omega) hge trivial (fun j a v ha hv=>?_) (fun j v hj hv=>?_)⟩
   ·have hj:j < (a0p s).length:=(List.getElem?_eq_some_iff.1 ha).1
    rw [Nat.zero_add,List.getElem?_append_left (by omega)] at hv
    exact (a0i s G').at_ j a v ha hv
   ·rw [Nat.zero_add,List.getElem?_append_left (by omega)] at hv
    unfold byteCells at hv
    obtain ⟨_,_,rfl⟩:=List.mem_map.1 (List.mem_of_getElem? hv)
    rfl
 ·cases h
theorem kk_u8 {te:TD} {d:TypeDesc} (h:Q0 te.k d = true) (hk:te.k = .int .u8):d = .int .u8:=by rw [hk] at h; exact kk_int h
theorem g_freeze (hR:Rel A.bld A.u8 w0 G st w) {x:AV} {xv:Value} (h:a3s x st = some st') (hx:VR G x xv) {t e:TypeId} (hd:P.underlying t = some (.slice e)) (he:P.underlying e = some (.int .u8)) :
  P5 P A w0 G (convert t t xv) w x st':=by
 obtain ⟨own,hR⟩:=hR
 unfold a3s at h
 split at h
 case h_2=>cases h
 rename_i id g off len es
 split at h
 ·cases h
 rename_i hl0
 split at h
 case h_2=>cases h
 rename_i g' cs fz hid
 split at h
 case isFalse=>cases h
 rename_i hg
 subst hg
 cases h
 obtain ⟨b,o,arr,t0,fr,h1,h2,h3,h4,h5,h6,h7,h9,h8⟩:=hR.obj id _ hid
 have hx0:=hx
 cases hx with
 | ms _ _ _ _ _ b' o' cap a hh hc ha=>
 rw [h1] at hh
 cases hh
 obtain ⟨rfl,nz,hnz,hle⟩:=ha.resolve_left (by omega)
 have hlt:b < w.heap.size:=(Array.getElem?_eq_some_iff.1 h5).1
 obtain ⟨fr',hb⟩:∃ fr',(w.freeze ⟨b,arr.size,none⟩ 1).heap[b]? = some (.cells arr t0 fr'):=by
  obtain ⟨lo,hi⟩:=fr
  exact ⟨_,by simp only [World.freeze,if_neg (Nat.one_ne_zero),Array.getElem?_modify,if_true,h5,Option.map_some]; rfl⟩
 have hfar:∀ k,k ≠ b→(w.freeze ⟨b,arr.size,none⟩ 1).heap[k]? = w.heap[k]?:=fun k hk=>by simp [World.freeze,Array.getElem?_modify,Ne.symm hk]
 refine ⟨.slice (some ⟨b,o + off,none⟩) len cap,w.freeze ⟨b,arr.size,none⟩ 1,G,?_,Gh.le.refl G,⟨own,hR.upd (S:=fun k=>k = b) id _ rfl rfl rfl (by simp [World.freeze]) (fun k hk=>hfar k hk) (fun k hk=>?_) (Gh.le.refl G) (fun _ _=>rfl) (fun k l hk hl=>?_) (fun k n hn=>?_)
  (.inl ⟨rfl,_,hid,Nat.le_refl _⟩) (fun k => .inl rfl) (fun j g x hx => .inl hx) ?_⟩,hx0⟩
 ·simp [convert,run_underlying hd,run_underlying he,markStringish,shape,Sem.run,World.shape?,h5,freeze]
 ·subst hk; exact ⟨(hR.ownlt _ _ h2).1, .inr h2⟩
 ·subst hk; rw [h3] at hl; cases hl
 ·by_cases hk:k = b
  ·subst hk; rw [h4] at hn; exact .inr ⟨arr,t0,fr',hb,Option.some.inj hn⟩
  ·exact .inl ⟨hk,hn⟩
 ·exact ⟨b,o,arr,t0,fr',h1,h2,h3,h4,hb,h6,h7,h9,fun hf=>absurd hf (by omega)⟩
theorem g_conv (hT:X1 P A) (hR:Rel A.bld A.u8 w0 G st w) {wr:Bool} {src dst:TypeId} {x:AV} {xv:Value} {k:Out→Sto→Option R} {r:R} (h:convK A wr src dst x st k = some r) (hx:VR G x xv) :
  ∃ v st',k (.ret v) st' = some r∧P5 P A w0 G (convert src dst xv) w v st':=by
 unfold convK at h
 cases hts:P0 src A.tab with
 | none=>simp [hts] at h
 | some ts=>
 cases htd:P0 dst A.tab with
 | none=>simp [hts,htd] at h
 | some td=>
 simp only [hts,htd,Option.bind_some] at h
 obtain ⟨_,ds,_,hds,_,_,hks,_⟩:=(hT src ts hts).ok
 obtain ⟨_,dd,_,hdd,_,_,hkd,_⟩:=(hT dst td htd).ok
 split at h
 ·rename_i ik hik
  rw [hik] at hkd
  obtain rfl:=kk_int hkd
  cases x with
  | int k' n=>cases hx; exact ⟨_,_,h,P5.same hR (by simp [convert,run_underlying hds,run_underlying hdd,Conv.intToInt]) (.int _ _)⟩
  | _=>simp [asInt] at h
 ·rename_i hik
  rw [hik] at hkd
  obtain rfl:=a2s hkd
  split at h
  ·rename_i e he
   rw [he] at hks
   obtain rfl:=Z1 hks
   cases hte:P0 e A.tab with
   | none=>simp [hte] at h
   | some te=>
    simp only [hte,Option.bind_some] at h
    obtain ⟨_,de,_,hde,_,_,hke,_⟩:=(hT e te hte).ok
    split at h
    ·rename_i hu8
     obtain rfl:=kk_u8 hke hu8
     cases htx:toText st x with
     | none=>simp [htx] at h
     | some s=>
      simp only [htx,Option.bind_some] at h
      exact ⟨_,_,h,g_toText hR htx hx hds hde hdd⟩
    ·cases h
  ·rename_i he
   cases x with
   | str s=>cases hx; exact ⟨_,_,h,P5.same hR (by simp [convert,run_underlying hds,run_underlying hdd]) (.str _)⟩
   | _=>simp [asS] at h
  ·cases x with
   | int k' n=>cases hx; exact ⟨_,_,h,P5.same hR (by simp [convert,run_underlying hds,run_underlying hdd,Conv.intToString]) (.str _)⟩
   | _=>simp [asInt] at h
 ·rename_i e hik
  rw [hik] at hkd
  obtain rfl:=Z1 hkd
  split at h
  ·rename_i he
   rw [he] at hks
   obtain rfl:=a2s hks
   cases hte:P0 e A.tab with
   | none=>simp [hte] at h
   | some te=>
    simp only [hte,Option.bind_some] at h
    obtain ⟨_,de,_,hde,_,_,hke,_⟩:=(hT e te hte).ok
    split at h
    ·rename_i hu8
     obtain rfl:=kk_u8 hke hu8
     cases x with
     | str s=>
      simp only [asS,Option.bind_some,two] at h
      cases htb:toBytes wr s st with
      | none=>simp [htb] at h
      | some p=>
       simp only [htb,Option.bind_some] at h
       cases hx
       exact ⟨_,_,h,g_toBytes hR htb hds hdd hde⟩
     | _=>simp [asS] at h
    ·cases h
  ·rename_i e' he
   split at h
   case isFalse=>cases h
   rename_i hsd
   subst hsd
   cases hte:P0 e A.tab with
   | none=>simp [hte] at h
   | some te=>
    simp only [hte,Option.bind_some] at h
    obtain ⟨_,de,_,hde,_,_,hke,_⟩:=(hT e te hte).ok
    split at h
    ·rename_i hu8
     obtain rfl:=kk_u8 hke hu8
     cases hf:a3s x st with
     | none=>simp [hf] at h
     | some s=>
      simp only [hf,Option.bind_some] at h
      exact ⟨_,_,h,g_freeze hR hf hx hdd hde⟩
    ·cases h
  ·cases h
 ·cases h
theorem a20 (hR:Rel A.bld A.u8 w0 G st w) (ob:Ob) (o:Obj) (hv:ob.ver = 0)
  (hob:∀ G' own' w',G.le G'→G'.ρ st.length 0 = some (w.heap.size,0)→own' w.heap.size = some st.length→w'.heap[w.heap.size]? = some o→G'.H w.heap.size = G.H w.heap.size→ObR A.bld A.u8 G' own' w' st.length ob) :
  ∃ G',G.le G'∧Rel A.bld A.u8 w0 G' (st ++ [ob]) (w.alloc o)∧G'.ρ st.length 0 = some (w.heap.size,0):=by
 obtain ⟨own,hR⟩:=hR
 obtain ⟨fH,fZ,fo⟩:=hR.fresh
 have hle:G.le { ρ:=fun i g=>if i = st.length∧g = 0 then some (w.heap.size,0) else G.ρ i g,H:=G.H,Z:=G.Z }:=by
  refine ⟨fun i g x hx=>?_,fun b l hb=>⟨[],by simpa using hb⟩,fun b n hb=>hb⟩
  obtain ⟨ob,ho,_⟩:=hR.dom i g x hx
  have:=(List.getElem?_eq_some_iff.1 ho).1
  simp only
  rw [if_neg (by omega)]
  exact hx
 refine ⟨_,hle,⟨fun k=>if k = w.heap.size then some st.length else own k,hR.new ob o _ _ rfl hle (fun _ _=>rfl) (fun l hl=>by simp only at hl; rw [fH] at hl; cases hl) (fun k n hn=>?_) (fun j g x hx=>?_) ?_⟩,by simp⟩
 ·refine .inl ⟨fun e=>?_,hn⟩
  subst e
  simp only at hn
  rw [fZ] at hn
  cases hn
 ·simp only at hx
  split at hx
  ·rename_i hj; exact .inr ⟨hj.1,by rw [hv]; omega⟩
  ·exact .inl hx
 ·exact hob _ _ _ hle (by simp) (by simp) (alloc_at w o) rfl
theorem a2h {own:Nat→Option Nat} (hR:a13 A.bld A.u8 w0 G own st w) {i b:Nat} {ob0 ob:Ob} (hi:st[i]? = some ob0) (hv:ob0.ver ≤ ob.ver) (hown:own b = some i) {o0 o:Obj} (hb:w.heap[b]? = some o0) (hnc:∀ arr t fr,o0 ≠ .cells arr t fr)
  (hob:∀ w',w'.heap[b]? = some o→ObR A.bld A.u8 G own w' i ob):a13 A.bld A.u8 w0 G own (st.set i ob) { w with heap:=w.heap.setIfInBounds b o }:=by
 have hlt:b < w.heap.size:=(hR.ownlt b i hown).2
 have hb':({ w with heap:=w.heap.setIfInBounds b o }:World).heap[b]? = some o:=by simp [hlt]
 refine hR.upd (S:=fun k=>k = b) i ob rfl rfl rfl (by simp) (fun k hk=>?_) (fun k hk=>?_) (Gh.le.refl G) (fun _ _=>rfl) (fun k l hk hl=>?_) (fun k n hn => .inl ⟨fun e=>?_,hn⟩) (.inl ⟨rfl,ob0,hi,hv⟩) (fun k => .inl rfl) (fun j g x hx => .inl hx) (hob _ hb')
 ·simp [Array.getElem?_setIfInBounds_ne (Ne.symm hk)]
 ·subst hk; exact ⟨(hR.ownlt _ _ hown).1, .inr hown⟩
 ·subst hk
  obtain ⟨arr,t,fr,m,h1,_⟩:=hR.prot k l hl
  rw [hb] at h1
  cases h1
  exact absurd rfl (hnc _ _ _)
 ·subst e
  obtain ⟨arr,t,fr,h1,_⟩:=hR.size k n hn
  rw [hb] at h1
  cases h1
  exact hnc _ _ _ rfl
theorem g_range (hR:Rel A.bld A.u8 w0 G st w) {t:TypeId} (hd:P.underlying t = some .string) (s:ByteArray):P5 P A w0 G (Instr.range t (.string s)) w (.it st.length) (st ++ [.iter s 0]):=by
 obtain ⟨G',k1,k2,k3⟩:=a20 hR (.iter s 0) (.stringIter s 0) rfl (fun G' own' w' h1 h2 h3 h4 _=>⟨w.heap.size,h2,h3,h4⟩)
 exact ⟨.pointer (some ⟨w.heap.size,0,none⟩),_,G',by simp [Instr.range,run_underlying hd],k1,k2, .it _ _ k3⟩
theorem g_next (hR:Rel A.bld A.u8 w0 G st w) {x:AV} {xv:Value} {b:Bool} {v:AV} (h:nextA x b st = some (v,st')) (hx:VR G x xv) (t:TypeId):P5 P A w0 G (Instr.next xv b t) w v st':=by
 obtain ⟨own,hRo⟩:=hR
 unfold nextA at h
 split at h
 ·rename_i id
  split at h
  ·rename_i s pos hid
   split at h
   ·rename_i hb
    obtain rfl:b = true:=hb
    obtain ⟨bk,h1,h2,h3⟩:=hRo.obj id _ hid
    cases hx with
    | it _ b' h4=>
     rw [h1] at h4
     cases h4
     split at h
     ·rename_i hp
      simp only [Option.some.injEq,Prod.mk.injEq] at h
      obtain ⟨rfl,rfl⟩:=h
      refine ⟨.tuple #[.bool true, .int .i64 pos, .int .i32 (Utf8.decode s pos).1],{ w with heap:=w.heap.setIfInBounds bk (.stringIter s (pos + (Utf8.decode s pos).2)) },G,?_,Gh.le.refl G,⟨own,a2h hRo hid (ob := .iter s (pos + (Utf8.decode s pos).2)) (by simp [Ob.ver]) h2 h3 (by simp) fun w' hw=>⟨bk,h1,h2,hw⟩⟩,?_⟩
      ·simp [Instr.next,getObj,setObj,Sem.run,h3,hp,goInt]
      ·exact VRs.tup (vs:=#[_,_,_]) (VRs.cons (.bool _) (VRs.cons (.int _ _) (VRs.one (.int _ _))))
     ·rename_i hp
      simp only [Option.some.injEq,Prod.mk.injEq] at h
      obtain ⟨rfl,rfl⟩:=h
      exact P5.same ⟨own,hRo⟩ (v' := .tuple #[.bool false]) (by simp [Instr.next,getObj,Sem.run,h3,hp]) (VRs.tup (vs:=#[_]) (VRs.one (.bool _)))
   ·cases h
  ·cases h
 ·cases h
end
end Go.St
namespace Go.St
open Go.RowKit
set_option linter.unusedVariables false
set_option linter.unusedSimpArgs false
section
variable {P:Program} {A:P2} {w0:World} {G:Gh} {st st':Sto} {w:World} {R:Type}
theorem a2V {tk:TD} {k:AV} {d:TypeDesc} (h:keyOk tk k = true) (hk:Q0 tk.k d = true):(∃ ik n,d = .int ik∧k = .int ik n)∨(∃ s,d = .string∧k = .str s)∨(∃ b,d = .bool∧k = .bool b):=by
 unfold keyOk at h
 split at h
 ·rename_i ik ik' n hik
  simp only [beq_iff_eq] at h
  subst h
  rw [hik] at hk
  exact .inl ⟨_,n,kk_int hk,rfl⟩
 ·rename_i s hik
  rw [hik] at hk
  exact .inr (.inl ⟨s,a2s hk,rfl⟩)
 ·rename_i b hik
  rw [hik] at hk
  refine .inr (.inr ⟨b,?_,rfl⟩)
  cases d <;> simp_all [Q0]
 ·cases h
theorem eqCell_same {d:TypeDesc} {k k':AV} {kv kv':Value} {q:Bool} (h:eqCell k k' = some q) (hk:VR G k kv) (hk':VR G k' kv') (hd:(∃ ik n,d = .int ik∧k = .int ik n)∨(∃ s,d = .string∧k = .str s)∨(∃ b,d = .bool∧k = .bool b)) :
  Instr.sameNow d kv kv' = some q∧(q = true→Instr.sameBits 10000 kv' kv = true∧Instr.sameBits 10000 kv kv' = true):=by
 rcases hd with ⟨ik,n,rfl,rfl⟩ | ⟨s,rfl,rfl⟩ | ⟨b,rfl,rfl⟩ <;> cases k' <;> simp [eqCell] at h
 ·obtain ⟨rfl,rfl⟩:=h
  cases hk; cases hk'
  refine ⟨by simp only [Instr.sameNow,if_true]; rfl,fun hq=>?_⟩
  simp only [decide_eq_true_eq] at hq
  subst hq
  simp [Instr.sameBits]
 ·subst h
  cases hk; cases hk'
  refine ⟨by simp only [Instr.sameNow,beq_toListBytes,a0T],fun hq=>?_⟩
  simp only [decide_eq_true_eq] at hq
  subst hq
  simp [Instr.sameBits,beq_toListBytes]
 ·subst h
  cases hk; cases hk'
  refine ⟨by simp [Instr.sameNow],fun hq=>?_⟩
  simp only [beq_iff_eq] at hq
  subst hq
  simp [Instr.sameBits]
def EntR (G:Gh) (es:List (AV × AV)) (arr:List MapEntry):Prop:=arr.length = es.length∧∀ (j:Nat) (x:AV × AV) (y:MapEntry),es[j]? = some x→arr[j]? = some y→VR G x.1 y.key∧VR G x.2 y.val
theorem a3L {d:TypeDesc} {k:AV} {kv:Value} (hk:VR G k kv) (hd:(∃ ik n,d = .int ik∧k = .int ik n)∨(∃ s,d = .string∧k = .str s)∨(∃ b,d = .bool∧k = .bool b)) :
  ∀ {es:List (AV × AV)} {arr:List MapEntry} {i:Nat} {r:Option (Nat × AV)},keyNo k es i = some r→EntR G es arr →
   (r = none∧Instr.findNow d kv arr i = some none)∨∃ j v e,r = some (i + j,v)∧es[j]? = some (((es[j]?).getD (.any, .any)).1,v)∧arr[j]? = some e∧VR G v e.val∧Instr.findNow d kv arr i = some (some (i + j,e.val))∧Instr.sameBits 10000 e.key kv = true:=by
 intro es
 induction es with
 | nil=>
  intro arr i r h he
  have:arr = []:=List.eq_nil_of_length_eq_zero (by simpa using he.1)
  subst this
  simp only [keyNo,Option.some.injEq] at h
  exact .inl ⟨h.symm,rfl⟩
 | cons x es ih=>
  intro arr i r h he
  cases arr with
  | nil=>have:=he.1; simp at this
  | cons y arr=>
   obtain ⟨k',v⟩:=x
   obtain ⟨h1,h2⟩:=he.2 0 _ _ rfl rfl
   simp only [keyNo] at h
   cases hc:eqCell k k' with
   | none=>simp [hc] at h
   | some q=>
    simp only [hc,Option.bind_some] at h
    obtain ⟨hs,hb⟩:=eqCell_same hc hk h1 hd
    cases q with
    | true=>
     simp only [if_true,Option.some.injEq] at h
     subst h
     exact .inr ⟨0,v,y,rfl,rfl,rfl,h2,by simp [Instr.findNow,hs],(hb rfl).1⟩
    | false=>
     simp only [Bool.false_eq_true,if_false] at h
     have he':EntR G es arr:=⟨by have:=he.1; simpa using this,fun j x y hx hy=>he.2 (j + 1) x y (by simpa using hx) (by simpa using hy)⟩
     rcases ih h he' with ⟨rfl,h3⟩ | ⟨j,v',e,rfl,h4,h5,h6,h7,h8⟩
     ·exact .inl ⟨rfl,by simp [Instr.findNow,hs,h3]⟩
     ·refine .inr ⟨j + 1,v',e,by congr 2; omega,by simpa using h4,by simpa using h5,h6,?_,h8⟩
      simp only [Instr.findNow,hs,h7]
      congr 3
      omega
theorem a4n {e:Bool} {t:TypeId} {d:TypeDesc} {k:AV} {kv:Value} (hd:P.underlying t = some d) (hk:VR G k kv) (h:(∃ ik n,d = .int ik∧k = .int ik n)∨(∃ s,d = .string∧k = .str s)∨(∃ b,d = .bool∧k = .bool b)) (D:Nat) (w:World) :
  (Instr.checkKey e (D + 1) t kv).run P w = .ok () w:=by
 rcases h with ⟨ik,n,rfl,rfl⟩ | ⟨s,rfl,rfl⟩ | ⟨b,rfl,rfl⟩ <;> cases hk <;> simp [Instr.checkKey,run_underlying hd]
theorem a1A {t:TypeId} {d:TypeDesc} {kv:Value} {arr:List MapEntry} {r:Option (Nat × Value)} (hd:P.underlying t = some d) (h:Instr.findNow d kv arr 0 = some r) (w:World):(Instr.findKey t kv arr).run P w = .ok r w:=by
 simp [Instr.findKey,run_underlying hd,h]
theorem map_obj {own:Nat→Option Nat} (hR:a13 A.bld A.u8 w0 G own st w) {id:Nat} {es:List (AV × AV)} (hid:st[id]? = some (.map es)) {mv:Value} (hm:VR G (.mr id) mv) :
  ∃ b arr,mv = .map (some b)∧G.ρ id 0 = some (b,0)∧own b = some id∧w.heap[b]? = some (.map arr arr.size)∧EntR G es arr.toList∧∀ (j:Nat) (y:MapEntry),arr[j]? = some y→y.born = j:=by
 obtain ⟨b,arr,h1,h2,h3,h4,h5⟩:=hR.obj id _ hid
 cases hm with
 | mr _ b' h6=>
  rw [h1] at h6
  cases h6
  refine ⟨b,arr,rfl,h1,h2,h3,⟨by simpa using h4,fun j x y hx hy=>let ⟨a,b,_⟩:=h5 j x y hx (by simpa using hy); ⟨a,b⟩⟩,fun j y hy=>?_⟩
  have hj:j < es.length:=by rw [←h4]; exact (Array.getElem?_eq_some_iff.1 hy).1
  exact (h5 j _ y (List.getElem?_eq_getElem hj) hy).2.2
theorem g_lookup (hT:X1 P A) (hR:Rel A.bld A.u8 w0 G st w) {t:TypeId} {m k v:AV} {mv kv:Value} {ok:Bool} (h:lookupA A t m k ok st = some v) (hm:VR G m mv) (hk:VR G k kv):P5 P A w0 G (Instr.lookup t mv kv ok) w v st:=by
 unfold lookupA at h
 cases ht:P0 t A.tab with
 | none=>simp [ht] at h
 | some td=>
 simp only [ht,Option.bind_some] at h
 obtain ⟨_,d,_,hd,_,_,hkd,_⟩:=(hT t td ht).ok
 split at h
 case h_2=>cases h
 rename_i kt et he
 rw [he] at hkd
 obtain rfl:=kk_map hkd
 cases htk:P0 kt A.tab with
 | none=>simp [htk] at h
 | some tk=>
 cases hte:P0 et A.tab with
 | none=>simp [htk,hte] at h
 | some te=>
 simp only [htk,hte,Option.bind_some] at h
 obtain ⟨_,dk,_,hdk,_,_,hkk,_⟩:=(hT kt tk htk).ok
 obtain ⟨ie,de,hie,hde,hse,_,hke,z,hz,hzr,hag,hnag,hzl⟩:=(hT et te hte).ok
 split at h
 case isFalse=>cases h
 rename_i hok
 have hcs:=a2V hok hkk
 unfold lkM at h
 cases hmo:mapOf m st with
 | none=>simp [hmo] at h
 | some es=>
 simp only [hmo,Option.bind_some] at h
 obtain ⟨own,hRo⟩:=hR
 have hload:∃ arr:Array MapEntry,EntR G es arr.toList∧(Instr.lookup t mv kv ok).run P w = (do
   Instr.checkKey arr.isEmpty 10000 kt kv
   let (v,b) ←match ←Instr.findKey kt kv arr.toList with
    | some (_,v)=>Pure.pure (v,true)
    | none=>Pure.pure (←zeroValue et,false)
   Pure.pure (if ok then Value.tuple #[v, .bool b] else v):Sem Value).run P w:=by
  unfold mapOf at hmo
  split at hmo
  ·cases hmo; cases hm; refine ⟨#[],⟨rfl,by simp⟩,?_⟩
   simp only [Instr.lookup,Sem.run_bind,run_underlying hd,Result.andThen_ok,Sem.run_pure]
   rfl
  ·split at hmo
   ·rename_i hid
    cases hmo
    obtain ⟨b,arr,rfl,h1,h2,h3,h4,_⟩:=map_obj hRo hid hm
    refine ⟨arr,h4,?_⟩
    have hg:(getObj b:Sem Obj).run P w = .ok (.map arr arr.size) w:=by simp [getObj,Sem.run,h3]
    simp only [Instr.lookup,Sem.run_bind,run_underlying hd,Result.andThen_ok,Sem.run_pure,hg]
    rfl
   ·cases hmo
  ·cases hmo
 obtain ⟨arr,hent,hrun⟩:=hload
 cases hkn:keyNo k es 0 with
 | none=>simp [hkn] at h
 | some r=>
 simp only [hkn,Option.bind_some] at h
 have hck:=a4n (P:=P) (e:=arr.isEmpty) hdk hk hcs 9999 w
 rcases a3L hk hcs hkn hent with ⟨rfl,hf⟩ | ⟨j,v',e,rfl,h4,h5,h6,hf,_⟩
 ·simp only at h
  cases hzp:pack te.isAgg te.zero with
  | none=>simp [hzp] at h
  | some zv=>
   simp only [hzp,Option.bind_some,Option.some.injEq] at h
   obtain ⟨z1,z2,z3⟩:=Y1 hzr hzl G
   have hzv:VR G zv z:=by
    unfold pack at hzp
    split at hzp
    ·rename_i ha
     cases hzp
     obtain ⟨cs,rfl⟩:=hag ha
     exact .agg _ _ (by rw [z1.len]; simp [Value.cells]) fun j a v ha hv=>z1.at_ j a v ha (by simpa [Value.cells] using hv)
    ·rename_i ha
     split at hzp
     ·rename_i c hc
      cases hzp
      have h1:=hnag (by simpa using ha)
      rw [cells_one h1] at z1
      rw [hc] at z1
      exact z1.at_ 0 _ _ rfl rfl
     ·cases hzp
   refine P5.same ⟨own,hRo⟩ (v':=if ok then .tuple #[z, .bool false] else z) ?_ ?_
   ·rw [hrun]
    simp [hck,a1A hdk hf,a4v hie hz]
   ·subst h
    cases ok
    ·exact hzv
    ·exact VRs.tup (vs:=#[_,_]) (VRs.cons hzv (VRs.one (.bool _)))
 ·simp only [Option.some.injEq] at h
  refine P5.same ⟨own,hRo⟩ (v':=if ok then .tuple #[e.val, .bool true] else e.val) ?_ ?_
  ·rw [hrun]
   simp [hck,a1A hdk hf]
  ·subst h
   cases ok
   ·exact h6
   ·exact VRs.tup (vs:=#[_,_]) (VRs.cons h6 (VRs.one (.bool _)))
theorem r_keeps {old new:Value} (h:Instr.sameBits 10000 old new = true) (w:World):(Instr.keyThatStays old new).run P w = .ok new w:=by
 simp [Instr.keyThatStays,h]
theorem EntR.set {es:List (AV × AV)} {arr:List MapEntry} (h:EntR G es arr) {j:Nat} {x:AV × AV} {e y:MapEntry} (he:arr[j]? = some e) (hk:VR G x.1 y.key) (hv:VR G x.2 y.val):EntR G (es.set j x) (arr.set j y):=by
 have hj:j < arr.length:=(List.getElem?_eq_some_iff.1 he).1
 refine ⟨by simp [h.1],fun n a b ha hb=>?_⟩
 by_cases hn:n = j
 ·subst hn
  rw [List.getElem?_set_self (by rw [←h.1]; exact hj)] at ha
  rw [List.getElem?_set_self hj] at hb
  cases ha; cases hb
  exact ⟨hk,hv⟩
 ·rw [List.getElem?_set_ne (Ne.symm hn)] at ha hb
  exact h.2 n a b ha hb
theorem EntR.push {es:List (AV × AV)} {arr:List MapEntry} (h:EntR G es arr) {x:AV × AV} {y:MapEntry} (hk:VR G x.1 y.key) (hv:VR G x.2 y.val):EntR G (es ++ [x]) (arr ++ [y]):=by
 refine ⟨by simp [h.1],fun n a b ha hb=>?_⟩
 by_cases hn:n < es.length
 ·rw [List.getElem?_append_left hn] at ha
  rw [List.getElem?_append_left (by rw [h.1]; exact hn)] at hb
  exact h.2 n a b ha hb
 ·rw [List.getElem?_append_right (by omega)] at ha
  rw [List.getElem?_append_right (by rw [h.1]; omega),h.1] at hb
  have:n - es.length = 0:=by
   have:=(List.getElem?_eq_some_iff.1 ha).1
   simp at this
   omega
  rw [this] at ha hb
  cases ha; cases hb
  exact ⟨hk,hv⟩
theorem map_ob {own:Nat→Option Nat} {i b:Nat} {es:List (AV × AV)} {arr:Array MapEntry} (h1:G.ρ i 0 = some (b,0)) (h2:own b = some i) (he:EntR G es arr.toList) (hb:∀ (j:Nat) (y:MapEntry),arr[j]? = some y→y.born = j)
  {n:Nat} (hn:n = arr.size) {w:World} (hw:w.heap[b]? = some (.map arr n)):ObR A.bld A.u8 G own w i (.map es):=by
 subst hn
 exact ⟨b,arr,h1,h2,hw,by simpa using he.1,fun j x y hx hy=>⟨(he.2 j x y hx (by simpa using hy)).1,(he.2 j x y hx (by simpa using hy)).2,hb j y hy⟩⟩
theorem modify_set {α:Type} (arr:Array α) (j:Nat) (f:α→α) {e:α} (h:arr[j]? = some e):(arr.modify j f).toList = arr.toList.set j (f e):=by
 apply List.ext_getElem?
 intro k
 have hj:j < arr.size:=(Array.getElem?_eq_some_iff.1 h).1
 simp only [Array.getElem?_toList,Array.getElem?_modify]
 by_cases hk:j = k
 ·subst hk
  rw [if_pos rfl,h,List.getElem?_set_self (by simpa using hj)]
  rfl
 ·rw [if_neg hk,List.getElem?_set_ne hk]
  simp
theorem born_modify {arr:Array MapEntry} (hb:∀ (j:Nat) (y:MapEntry),arr[j]? = some y→y.born = j) (i:Nat) (f:MapEntry→MapEntry) (hf:∀ e,(f e).born = e.born):∀ (j:Nat) (y:MapEntry),(arr.modify i f)[j]? = some y→y.born = j:=by
 intro j y hy
 rw [Array.getElem?_modify] at hy
 split at hy
 ·cases h:arr[j]? with
  | none=>simp [h] at hy
  | some e=>simp only [h,Option.map_some,Option.some.injEq] at hy; subst hy; rw [hf]; exact hb j e h
 ·exact hb j y hy
theorem born_push {arr:Array MapEntry} (hb:∀ (j:Nat) (y:MapEntry),arr[j]? = some y→y.born = j) (e:MapEntry) (he:e.born = arr.size):∀ (j:Nat) (y:MapEntry),(arr.push e)[j]? = some y→y.born = j:=by
 intro j y hy
 rw [Array.getElem?_push] at hy
 split at hy
 ·rename_i hj; cases hy; rw [he,hj]
 ·exact hb j y hy
theorem r_setMap {b:Nat} {arr arr':Array MapEntry} {n n':Nat} (h:w.heap[b]? = some (.map arr n)):(setObj b (.map arr' n'):Sem Unit).run P w = .ok () { w with heap:=w.heap.setIfInBounds b (.map arr' n') }:=by
 simp [setObj,Sem.run,h]
theorem g_setM (hR:Rel A.bld A.u8 w0 G st w) {t kt et:TypeId} {dk:TypeDesc} (hd:P.underlying t = some (.map kt et)) (hdk:P.underlying kt = some dk) {m k v:AV} {mv kv vv:Value} (h:setM m k v st = some st') (hm:VR G m mv) (hk:VR G k kv) (hv:VR G v vv)
  (hcs:(∃ ik n,dk = .int ik∧k = .int ik n)∨(∃ s,dk = .string∧k = .str s)∨(∃ b,dk = .bool∧k = .bool b)):GivesU P A w0 G (Instr.mapUpdate t mv kv vv) w st':=by
 unfold setM at h
 split at h
 case isFalse=>cases h
 split at h
 case h_2=>cases h
 rename_i id
 split at h
 case h_2=>cases h
 rename_i es hid
 obtain ⟨own,hRo⟩:=hR
 obtain ⟨b,arr,rfl,h1,h2,h3,hent,hborn⟩:=map_obj hRo hid hm
 have hg:(getObj b:Sem Obj).run P w = .ok (.map arr arr.size) w:=by simp [getObj,Sem.run,h3]
 have hlt:b < w.heap.size:=(Array.getElem?_eq_some_iff.1 h3).1
 cases hkn:keyNo k es 0 with
 | none=>simp [hkn] at h
 | some r=>
 simp only [hkn,Option.bind_some] at h
 have hck:=a4n (P:=P) (e:=false) hdk hk hcs 9999 w
 rcases a3L hk hcs hkn hent with ⟨rfl,hf⟩ | ⟨j,v',e,rfl,h4,h5,h6,hf,hsb⟩
 ·simp only [Option.some.injEq] at h
  subst h
  refine ⟨{ w with heap:=w.heap.setIfInBounds b (.map (arr.push { key:=kv,val:=vv,born:=arr.size }) (arr.size + 1)) },G,?_,Gh.le.refl G,own,a2h hRo hid (by simp [Ob.ver]) h2 h3 (by simp) fun w' hw'=>?_⟩
  ·simp [Instr.mapUpdate,run_underlying hd,hg,hck,a1A hdk hf,r_setMap h3]
  ·exact map_ob h1 h2 (by simpa using hent.push (x:=(k,v)) (y:={ key:=kv,val:=vv,born:=arr.size }) hk hv) (born_push hborn _ rfl) (by simp) hw'
 ·simp only [Option.some.injEq] at h
  subst h
  simp only [Nat.zero_add] at hf ⊢
  have he:arr[j]? = some e:=by simpa using h5
  refine ⟨{ w with heap:=w.heap.setIfInBounds b (.map (arr.modify j fun e=>{ e with key:=kv,val:=vv }) arr.size) },G,?_,Gh.le.refl G,own,a2h hRo hid (by simp [Ob.ver]) h2 h3 (by simp) fun w' hw'=>?_⟩
  ·simp [Instr.mapUpdate,run_underlying hd,hg,hck,a1A hdk hf,r_setMap h3,he,r_keeps hsb]
  ·refine map_ob h1 h2 ?_ (born_modify hborn j (fun e=>{ e with key:=kv,val:=vv }) fun _=>rfl) (by simp) hw'
   rw [modify_set _ _ _ he]
   exact hent.set h5 hk hv
theorem g_mapSet (hT:X1 P A) (hR:Rel A.bld A.u8 w0 G st w) {t:TypeId} {m k v:AV} {mv kv vv:Value} (h:mapSet A t m k v st = some st') (hm:VR G m mv) (hk:VR G k kv) (hv:VR G v vv):GivesU P A w0 G (Instr.mapUpdate t mv kv vv) w st':=by
 unfold mapSet at h
 cases ht:P0 t A.tab with
 | none=>simp [ht] at h
 | some td=>
 simp only [ht,Option.bind_some] at h
 obtain ⟨_,d,_,hd,_,_,hkd,_⟩:=(hT t td ht).ok
 split at h
 case h_2=>cases h
 rename_i kt et he
 rw [he] at hkd
 obtain rfl:=kk_map hkd
 cases htk:P0 kt A.tab with
 | none=>simp [htk] at h
 | some tk=>
 simp only [htk,Option.bind_some] at h
 obtain ⟨_,dk,_,hdk,_,_,hkk,_⟩:=(hT kt tk htk).ok
 split at h
 case isFalse=>cases h
 rename_i hok
 exact g_setM hR hd hdk h hm hk hv (a2V hok hkk)
theorem g_makeMap (hR:Rel A.bld A.u8 w0 G st w) (t:TypeId):P5 P A w0 G (Instr.makeMap t none) w (.mr st.length) (st ++ [.map []]):=by
 obtain ⟨G',k1,k2,k3⟩:=a20 hR (.map []) (.map #[] 0) rfl (fun G' own' w' h1 h2 h3 h4 _=>map_ob h2 h3 (arr:=#[]) ⟨rfl,by simp⟩ (by simp) rfl h4)
 exact ⟨.map (some w.heap.size),_,G',by simp [Instr.makeMap,newObj,Sem.run],k1,k2, .mr _ _ k3⟩
theorem zero_VR {te:TD} {z:Value} {zv:AV} (hzp:pack te.isAgg te.zero = some zv) (hzr:zrsB te.zero z.cells.toList = true) (hag:te.isAgg = true→∃ cs,z = Value.agg cs) (hnag:te.isAgg = false→z.oneCell' = true) (hzl:te.zero.length = te.size) (G:Gh):VR G zv z:=by
 obtain ⟨z1,z2,z3⟩:=Y1 hzr hzl G
 unfold pack at hzp
 split at hzp
 ·rename_i ha
  cases hzp
  obtain ⟨cs,rfl⟩:=hag ha
  exact .agg _ _ (by rw [z1.len]; simp [Value.cells]) fun j a v ha hv=>z1.at_ j a v ha (by simpa [Value.cells] using hv)
 ·rename_i ha
  split at hzp
  ·rename_i c hc
   cases hzp
   have h1:=hnag (by simpa using ha)
   rw [cells_one h1] at z1
   rw [hc] at z1
   exact z1.at_ 0 _ _ rfl rfl
  ·cases hzp
theorem g_assert (hT:X1 P A) (hR:Rel A.bld A.u8 w0 G st w) {x v:AV} {xv:Value} {xt t:TypeId} {ok:Bool} (h:a37 A x t ok = some v) (hx:VR G x xv):P5 P A w0 G (Instr.typeAssert xv xt t ok) w v st:=by
 unfold a37 at h
 cases ht:P0 t A.tab with
 | none=>simp [ht] at h
 | some td=>
 simp only [ht,Option.bind_some] at h
 obtain ⟨ie,d,hie,hd,_,_,hkd,z,hz,hzr,hag,hnag,hzl⟩:=(hT t td ht).ok
 have hni:∀ ms,d ≠ .interface ms:=by
  rintro ms rfl
  split at h
  ·cases h
  ·rename_i hk
   cases htk:td.k <;> simp [htk,Q0] at hkd
   exact hk _ htk
 have h':asrt (pack td.isAgg td.zero) t ok x = some v:=by
  split at h
  ·cases h
  ·exact h
 unfold asrt at h'
 split at h'
 ·split at h'
  ·rename_i hok
   subst hok
   cases hzp:pack td.isAgg td.zero with
   | none=>simp [hzp] at h'
   | some zv=>
    simp only [hzp,Option.bind_some,Option.some.injEq] at h'
    subst h'
    cases hx
    refine P5.same hR (v' := .tuple #[z, .bool false]) ?_ (VRs.tup (vs:=#[_,_]) (VRs.cons (zero_VR hzp hzr hag hnag hzl G) (VRs.one (.bool _))))
    simp only [Instr.typeAssert,Sem.run_bind,run_underlying hd,Result.andThen_ok]
    cases d <;> first | (exact absurd rfl (hni _)) | simp [a4v hie hz]
  ·cases h'
 ·rename_i t' v'
  split at h'
  ·rename_i htt
   subst htt
   simp only [Option.some.injEq] at h'
   cases hx with
   | ifc _ _ vv hvv=>
   refine P5.same hR (v':=if ok then .tuple #[vv, .bool true] else vv) ?_ ?_
   ·simp only [Instr.typeAssert,Sem.run_bind,run_underlying hd,Result.andThen_ok]
    cases d <;> first | (exact absurd rfl (hni _)) | simp
   ·subst h'
    cases ok
    ·exact hvv
    ·exact VRs.tup (vs:=#[_,_]) (VRs.cons hvv (VRs.one (.bool _)))
  ·rename_i htt
   split at h'
   ·rename_i hok
    subst hok
    cases hzp:pack td.isAgg td.zero with
    | none=>simp [hzp] at h'
    | some zv=>
     simp only [hzp,Option.bind_some,Option.some.injEq] at h'
     subst h'
     cases hx with
     | ifc _ _ vv hvv=>
     refine P5.same hR (v' := .tuple #[z, .bool false]) ?_ (VRs.tup (vs:=#[_,_]) (VRs.cons (zero_VR hzp hzr hag hnag hzl G) (VRs.one (.bool _))))
     simp only [Instr.typeAssert,Sem.run_bind,run_underlying hd,Result.andThen_ok]
     cases d <;> first | (exact absurd rfl (hni _)) | simp [a4v hie hz,htt]
   ·cases h'
 ·cases h'
theorem g_ext (hR:Rel A.bld A.u8 w0 G st w) {x v:AV} {xv:Value} {i:Nat} (h:ext x i = some v) (hx:VR G x xv):P5 P A w0 G (Instr.extract xv i) w v st:=by
 unfold ext at h
 split at h
 ·cases hx with
  | tup as xs hl hh=>
   have hi:=(List.getElem?_eq_some_iff.1 h).1
   have hi':i < xs.size:=by omega
   exact P5.same hR (v':=xs[i]) (by simp [Instr.extract,hi']) (hh i v _ h (by simp [hi']))
 ·cases h
end
end Go.St
