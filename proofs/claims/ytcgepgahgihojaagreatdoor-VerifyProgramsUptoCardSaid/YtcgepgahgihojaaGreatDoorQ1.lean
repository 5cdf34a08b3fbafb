import Derived.CallsIn
import Derived.OrdersIn
import Derived.Orders
import Derived.Laws.Sem
import Derived.RangeFuncIn
import Derived.ChangeSame
import Derived.Lib.LaidTab
import Derived.Carry
import GoSem.ClaimJoined
import Derived.Test.YtcgepgahgihojaaGreatDoorQ0
namespace Go.St
open Go.RowKit
set_option linter.unusedVariables false
set_option linter.unusedSimpArgs false
inductive DfrR (G:Gh):List a3I→List Deferred→Prop
 | nil:DfrR G [] []
 | mark {id r:Nat} {l:List a3I} {ds:List Deferred} (h:G.ρ id 1 = some (r,0)) (k:DfrR G l ds):DfrR G (⟨.yl id,[]⟩ :: l) ({ target := .collected r,args:=#[] } :: ds)
theorem DfrR.mono {G G':Gh} (h:G.le G') {l:List a3I} {ds:List Deferred} (k:DfrR G l ds):DfrR G' l ds:=by
 induction k with
 | nil=>exact .nil
 | mark h1 _ ih=>exact .mark (h.ρ _ _ _ h1) ih
theorem DfrR.none {G:Gh} {ds:List Deferred} (h:DfrR G [] ds):ds = []:=by cases h; rfl
structure a0C (G:Gh) (env:List AV) (dfr:List a3I) (a:Act):Prop where
 vals:VRs G env a.tmps.toList
 dfr:DfrR G dfr a.defers
def a04 (A:P2) (G:Gh):Prop:=∀ g cs,P0 g A.globs = some cs→VR G (.ip cs) (.pointer (some ⟨g,0,none⟩))
theorem a04.mono {A:P2} {G G':Gh} (h:a04 A G) (k:G.le G'):a04 A G':=fun g cs hg=>(h g cs hg).mono k
theorem a0C.mono {G G':Gh} {env:List AV} {dfr:List a3I} {a:Act} (h:a0C G env dfr a) (k:G.le G'):a0C G' env dfr a:=⟨h.vals.mono k,h.dfr.mono k⟩
theorem a35 (v:Value) (G:Gh):VR G (a2S v) v:=by
 unfold a2S
 split <;> constructor
theorem ofConst_VR (v:Value) (G:Gh):VR G (ofConst v) v:=by
 unfold ofConst
 split
 ·rename_i cs
  refine .agg _ cs (by simp) fun j a v ha hv=>?_
  simp only [List.getElem?_map,Array.getElem?_toList,hv,Option.map_some,Option.some.injEq] at ha
  subst ha
  exact a35 v G
 ·exact a35 _ G
theorem evA_VR {A:P2} {G:Gh} {env:List AV} {dfr:List a3I} {a:Act} (h:a0C G env dfr a) (hg:a04 A G) (x:Operand):VR G (evA A env x) (a.eval x):=by
 cases x with
 | tmp t=>
  simp only [evA,Act.eval]
  have hlen:env.length = a.tmps.size:=by simpa using h.vals.len
  by_cases ht:t < env.length
  ·have ht':t < a.tmps.size:=hlen ▸ ht
   have h1:env.getD t (.tup []) = env[t]:=by simp [ht]
   have h2:a.tmps.getD t undef = a.tmps[t]:=by simp [ht']
   rw [h1,h2]
   exact h.vals.at_ t _ _ (List.getElem?_eq_getElem ht) (by simp [ht'])
  ·have ht':¬ t < a.tmps.size:=hlen ▸ ht
   have h1:env.getD t (.tup []) = .tup []:=by simp [ht]
   have h2:a.tmps.getD t undef = undef:=by simp [Array.getD,ht']
   rw [h1,h2]
   exact .tup [] #[] rfl (fun j a v ha _=>by simp at ha)
 | const v=>exact ofConst_VR v G
 | global g=>
  simp only [evA,Act.eval]
  split
  ·rename_i cs hc; exact hg g cs hc
  ·exact .any _
 | func f=>exact .fn _ [] [] #[] #[] (by simp) rfl rfl (fun j a v ha _=>by simp at ha) (fun j a v ha _=>by simp at ha)
theorem a1x (G:Gh):VR G (.tup []) undef := .tup [] #[] rfl (fun j a v ha _=>by simp at ha)
theorem VRs.set {G:Gh} {as:List AV} {vs:List Value} (h:VRs G as vs) (d:Nat) {a:AV} {v:Value} (hv:VR G a v):VRs G (as.set d a) (vs.set d v):=by
 refine ⟨by simp [h.len],fun j x y hx hy=>?_⟩
 by_cases hj:d = j
 ·subst hj
  have h1:=(List.getElem?_eq_some_iff.1 hx).1
  have h2:=(List.getElem?_eq_some_iff.1 hy).1
  simp only [List.length_set] at h1 h2
  rw [List.getElem?_set_self h1] at hx
  rw [List.getElem?_set_self h2] at hy
  cases hx; cases hy
  exact hv
 ·rw [List.getElem?_set_ne hj] at hx hy
  exact h.at_ j x y hx hy
theorem a0C.put {G:Gh} {env:List AV} {dfr:List a3I} {a:Act} (h:a0C G env dfr a) (dst:Option Tmp) {x:AV} {v:Value} (hv:VR G x v):a0C G (Go.St.put env dst x) dfr (a.put dst v):=by
 cases dst with
 | none=>exact h
 | some d=>exact ⟨by simpa [Go.St.put,Act.put] using h.vals.set d hv,h.dfr⟩
def a0f (A:P2) (w0:World) (G:Gh) (out:Out) (st':Sto):Ending→World→Prop
 | .returned v,w'=>∃ G',G.le G'∧Rel A.bld A.u8 w0 G' st' w'∧∃ x,out = .ret x∧VR G' x v
 | .panicked ch,w'=>∃ G',G.le G'∧Rel A.bld A.u8 w0 G' st' w'∧∃ x v,out = .pan x∧ch = [{ v,recovered:=false }]∧VR G' x v
 | .outgrown,_=>False
def OpOK (P:Program) (A:P2) (w0:World) (G:Gh) (out:Out) (st':Sto):Result Next→Prop
 | .ok (.value v) w'=>a0f A w0 G out st' (.returned v) w'
 | .ok .skip w'=>a0f A w0 G out st' (.returned undef) w'
 | .ok (.enter f args) w'=>Calls P f args w' (a0f A w0 G out st')
 | .ok (.round l f tmps assign body) w'=>RoundIn Fence.wide 0 P l f tmps assign body w' (a0f A w0 G out st')
 | .halt (.panic v) w'=>a0f A w0 G out st' (.panicked [{ v,recovered:=false }]) w'
 | _=>False
structure a2w (P:Program) (A:P2) (w0:World) (C:Call):Prop where
 call:∀ f args st out st' G w (vs:Array Value),C f args st = some (out,st')→f ≠ rnd→a04 A G→Rel A.bld A.u8 w0 G st w→VRs G args vs.toList→Calls P f vs w (a0f A w0 G out st')
 round:∀ id args st out st' G w b (vs:Array Value),C rnd (.yl id :: args) st = some (out,st')→a04 A G→Rel A.bld A.u8 w0 G st w→G.ρ id 0 = some (b,0)→VRs G args vs.toList→OpOK P A w0 G out st' ((Instr.yield b vs).run P w)
def PrimOk (P:Program) (A:P2) (w0:World):Prop:=∀ f p,P0 f A.prims = some p→∀ args st out st' G w (vs:Array Value),primA p args st = some (out,st')→Rel A.bld A.u8 w0 G st w→VRs G args vs.toList →
 OpOK P A w0 G out st' ((callFunc f vs).run P w)
def FnsOk (P : Program) (A : P2) : Prop := ∀ f fn, P0 f A.fns = some fn → P.funcs[f]? = some fn ∧ (fn.name == "runtime.NumGoroutine") = false
def BldOk (P:Program) (A:P2):Prop:=∀ i,P.info? A.bld = some i→i.zero = some (.agg #[.pointer none, .slice none 0 0])
def EqsOk (P:Program) (A:P2):Prop:=∀ t ks,P0 t A.eqs = some ks→eqOkB P t ks = true
def a3n (A:P2) (C:Call):Prop:=∀ f args st r,C f args st = some r→f ≠ rnd→∃ fn,P0 f A.fns = some fn∧fn.body.isSome = true
def WF (ro:Option Nat):Fence:={ Fence.wide with round:=ro }
theorem WF.room (ro:Option Nat) (n:Nat):(WF ro).room n:=room_wide n
theorem WF.steps {P:Program} {ro:Option Nat} {m m':Machine}:StepsIn (Machine.fenced P (WF ro)) P m m' ↔ Steps P m m':=stepsIn_wide
theorem WF.calls {P:Program} {ro:Option Nat} {n:Nat} {f:FuncId} {args:Array Value} {w:World} {R:Ending→World→Prop} (h:Calls P f args w R):CallsIn (WF ro) n P f args w R:=callsIn_wide.2 h
theorem WF.deep {ro:Option Nat} {n:Nat}:(WF ro).depth.isSome = true→1 ≤ n:=fun h=>by cases h
def RQ {R:Type} (A:P2) (w0:World) (G0:Gh) (dfr:List a3I) (kn:List AV→Sto→Option R) (kp:AV→Sto→Option R) (r:R):Exit→Act→World→Prop
 | .normal,a,w=>∃ env st G,G0.le G∧Rel A.bld A.u8 w0 G st w∧a0C G env dfr a∧kn env st = some r
 | .panic ch,a,w=>∃ x v st G,ch = [{ v,recovered:=false }]∧G0.le G∧Rel A.bld A.u8 w0 G st w∧VR G x v∧DfrR G dfr a.defers∧kp x st = some r
 | _,_,_=>False
def DrawLaw (P:Program) (A:P2) (w0:World):Prop:=∀ (ro:Option Nat) (C:Call) (nt:a0o) (rid:Nat) (ops:Array Oper) (kn:List AV→Sto→Option Res) (kp:AV→Sto→Option Res) (r:Res) (G0 G:Gh) (env:List AV) (dfr:List a3I) (st:Sto) (a:Act) (w:World),
 a2w P A w0 C→a3n A C→a04 A G0→G0.le G→Rel A.bld A.u8 w0 G st w→a0C G env dfr a→a1p A C nt rid ops kn kp env st = some r→wpAnyIn (WF ro) 0 P .any ops (RQ A w0 G0 dfr kn kp r) ops.size (Array.replicate ops.size false) a { w with drawn:=w.drawn + 1 }
structure a1U (P:Program) (A:P2) (w0:World):Prop where
 tab:X1 P A
 eqs:EqsOk P A
 fns:FnsOk P A
 prims:PrimOk P A w0
 bld:BldOk P A
 mixed:A.draws = true→P.follows .mixedOrders = true
section
variable {P:Program} {A:P2} {w0:World} {G:Gh} {st st':Sto} {w:World} {R:Type}
theorem P5.op {s:Sem Value} {v:AV} (h:P5 P A w0 G s w v st'):OpOK P A w0 G (.ret v) st' ((do Pure.pure (.value (←s)):Sem Next).run P w):=by
 obtain ⟨v',w',G',h1,h2,h3,h4⟩:=h
 simp only [Sem.run_bind,h1,Result.andThen_ok,Sem.run_pure]
 exact ⟨G',h2,h3,v,rfl,h4⟩
theorem GivesU.op {s:Sem Unit} (h:GivesU P A w0 G s w st'):OpOK P A w0 G (.ret (.tup [])) st' ((do s; Pure.pure .skip:Sem Next).run P w):=by
 obtain ⟨w',G',h1,h2,h3⟩:=h
 simp only [Sem.run_bind,h1,Result.andThen_ok,Sem.run_pure]
 exact ⟨G',h2,h3,_,rfl,a1x G'⟩
theorem a1J (hR:Rel A.bld A.u8 w0 G st w) {v:AV} {v':Value} (hv:VR G v v'):OpOK P A w0 G (.ret v) st (.ok (.value v') w):=⟨G,Gh.le.refl G,hR,v,rfl,hv⟩
theorem Z0 {r:Option AV} {k:Out→Sto→Option R} {x:R} (h:one r st k = some x):∃ v,r = some v∧k (.ret v) st = some x:=by
 cases r with
 | none=>simp [one] at h
 | some v=>exact ⟨v,rfl,h⟩
theorem a2K {r:Option (AV × Sto)} {k:Out→Sto→Option R} {x:R} (h:two r k = some x):∃ v s,r = some (v,s)∧k (.ret v) s = some x:=by
 cases r with
 | none=>simp [two] at h
 | some v=>exact ⟨v.1,v.2,rfl,h⟩
theorem a3v {r:Option Sto} {k:Out→Sto→Option R} {x:R} (h:unit r k = some x):∃ s,r = some s∧k (.ret (.tup [])) s = some x:=by
 cases r with
 | none=>simp [unit] at h
 | some v=>exact ⟨v,rfl,h⟩
theorem bind_some {α β:Type} {r:Option α} {f:α→Option β} {x:β} (h:r.bind f = some x):∃ v,r = some v∧f v = some x:=by
 cases r with
 | none=>cases h
 | some v=>exact ⟨v,rfl,h⟩
theorem g_allocBld (hT:X1 P A) (hB:BldOk P A) (hR:Rel A.bld A.u8 w0 G st w) {td:TD} (ht:P0 A.bld A.tab = some td) (old:Value):P5 P A w0 G (Instr.alloc A.bld true old) w (.mp st.length 0 0) (st ++ [.bld ByteArray.empty]):=by
 obtain ⟨i,d,hi,hd,_⟩:=(hT _ td ht).ok
 have hz:=hB i hi
 obtain ⟨own,hRo⟩:=id hR
 obtain ⟨fH,fZ,fo⟩:=hRo.fresh
 obtain ⟨G',h1,h2,h3⟩:=a20 hR (.bld ByteArray.empty) (.cells #[.pointer none, .slice none 0 0] A.bld (0,0)) rfl fun G' own' w' k1 k2 k3 k4 k5=>
  ⟨w.heap.size,k2,k3, .pointer none, .slice none 0 0, .inl rfl,k4,by rw [k5]; exact fH, .inl ⟨rfl,rfl⟩⟩
 refine ⟨.pointer (some ⟨w.heap.size,0,none⟩),_,G',?_,h1,h2, .mp _ _ 0 _ _ h3⟩
 simp [Instr.alloc,a4v hi hz,newVar,newRow,Value.cells]
theorem a0L {k:IntKind} {x:AV} {n:Int} (h:asI k x = some n):x = .int k n:=by
 unfold asI at h
 split at h
 ·split at h
  ·rename_i hk; subst hk; cases h; rfl
  ·cases h
 ·cases h
theorem a4x {x:AV} {n:Int} (h:asInt x = some n):∃ k,x = .int k n:=by
 unfold asInt at h
 split at h
 ·rename_i k m; cases h; exact ⟨k,rfl⟩
 ·cases h
theorem asS_some {x:AV} {s:ByteArray} (h:asS x = some s):x = .str s:=by
 unfold asS at h
 split at h
 ·cases h; rfl
 ·cases h
theorem a2R {x:AV} {s:Bool} (h:asB x = some s):x = .bool s:=by
 unfold asB at h
 split at h
 ·cases h; rfl
 ·cases h
theorem parts_R {G:Gh} {ev:Operand→AV} {ρ:Operand→Value} (hev:∀ x,VR G (ev x) (ρ x)) (parts:Array (Nat × Operand)):PartsR G (parts.toList.map fun (i,x)=>(i,ev x)) (parts.map fun (i,x)=>(i,ρ x)).toList:=by
 refine ⟨by simp,fun j x y hx hy=>?_⟩
 simp only [Array.toList_map,List.getElem?_map] at hx hy
 cases hp:parts.toList[j]? with
 | none=>simp [hp] at hx
 | some p=>
  simp only [hp,Option.map_some,Option.some.injEq] at hx hy
  subst hx; subst hy
  exact ⟨rfl,hev _⟩
theorem VRs.map {α:Type} {G:Gh} {f:α→AV} {g:α→Value} (h:∀ x,VR G (f x) (g x)) (l:List α):VRs G (l.map f) (l.map g):=by
 refine ⟨by simp,fun j a v ha hv=>?_⟩
 simp only [List.getElem?_map] at ha hv
 cases hp:l[j]? with
 | none=>simp [hp] at ha
 | some p=>
  simp only [hp,Option.map_some,Option.some.injEq] at ha hv
  subst ha; subst hv
  exact h p
theorem op_bin (hS:a1U P A w0) (hR:Rel A.bld A.u8 w0 G st w) {t:TypeId} {td:TD} (ht:P0 t A.tab = some td) {op:BinOp} {X Y:Operand} {x y:AV} {xv yv:Value} {c:AV→Option R} {r:R}
  (h:binK td ((P0 t A.eqs).getD []) (R6 X || R6 Y) op x y c = some r) (hx:VR G x xv) (hy:VR G y yv):∃ v,c v = some r∧P5 P A w0 G (do eqGuard op t X Y xv yv; binOp op t xv yv) w v st:=by
 obtain ⟨_,d,_,hd,_,_,hk,_⟩:=(hS.tab t td ht).ok
 unfold binK at h
 split at h
 ·rename_i ik hik
  obtain ⟨a,ha,h2⟩:=bind_some h
  clear h
  obtain rfl:=a0L ha
  cases hx
  split at h2
  ·obtain ⟨b,hb,h⟩:=bind_some h2
   obtain ⟨k',rfl⟩:=a4x hb
   cases hy
   obtain ⟨v,h1,v',h2,h3⟩:=g_binI (P:=P) (G:=G) (w:=w) (k':=k') (.inr (.inl rfl)) h t X Y
   exact ⟨v,h1,P5.same hR h2 h3⟩
  ·obtain ⟨b,hb,h⟩:=bind_some h2
   obtain ⟨k',rfl⟩:=a4x hb
   cases hy
   obtain ⟨v,h1,v',h2,h3⟩:=g_binI (P:=P) (G:=G) (w:=w) (k':=k') (.inr (.inr rfl)) h t X Y
   exact ⟨v,h1,P5.same hR h2 h3⟩
  ·obtain ⟨b,hb,h⟩:=bind_some h2
   obtain rfl:=a0L hb
   cases hy
   obtain ⟨v,h1,v',h2,h3⟩:=g_binI (P:=P) (G:=G) (w:=w) (.inl rfl) h t X Y
   exact ⟨v,h1,P5.same hR h2 h3⟩
 ·obtain ⟨a,ha,h⟩:=bind_some h
  obtain ⟨b,hb,h⟩:=bind_some h
  obtain rfl:=asS_some ha
  obtain rfl:=asS_some hb
  cases hx; cases hy
  obtain ⟨v,h1,v',h2,h3⟩:=g_binS (P:=P) (G:=G) (w:=w) h t X Y
  exact ⟨v,h1,P5.same hR h2 h3⟩
 ·have hks:(P0 t A.eqs).getD [] = []∨eqOkB P t ((P0 t A.eqs).getD []) = true:=by
   cases he:P0 t A.eqs with
   | none=>exact .inl rfl
   | some ks=>exact .inr (hS.eqs t ks he)
  split at h
  ·obtain ⟨q,hq,h⟩:=bind_some h
   exact ⟨_,h,P5.same hR (by simpa using g_eqV hd hk hks hq hx hy (op := .eql) (.inl rfl)) (.bool q)⟩
  ·obtain ⟨q,hq,h⟩:=bind_some h
   exact ⟨_,h,P5.same hR (by simpa using g_eqV hd hk hks hq hx hy (op := .neq) (.inr rfl)) (.bool _)⟩
  ·cases h
theorem fn_VRs {G:Gh} {f:Fn} {as cs:List AV} {xs ys:Array Value} (h:VR G (.fn f as cs) (.func f xs ys)):VRs G as xs.toList∧VRs G cs ys.toList:=by
 cases h with
 | fn _ _ _ _ _ hf hx hy hh hk=>
  exact ⟨⟨by simpa using hx,fun j a v ha hv=>hh j a v ha (by simpa using hv)⟩,⟨by simpa using hy,fun j a v ha hv=>hk j a v ha (by simpa using hv)⟩⟩
theorem g_invoke (hS:a1U P A w0) {C:Call} (hC:a2w P A w0 C) (hI:a3n A C) (hGl:a04 A G) (hR:Rel A.bld A.u8 w0 G st w) {f:AV} {fv:Value} {args:List AV} {xs:Array Value} {out:Out} (h:V4 A C f args st = some (out,st')) (hf:VR G f fv) (hx:VRs G args xs.toList) :
  OpOK P A w0 G out st' ((do let d ←Deferred.ofValue fv xs; invoke d.target d.args:Sem Next).run P w):=by
 unfold V4 at h
 split at h
 case h_3=>cases h
 case h_2 id=>
  cases hf with
  | yl _ b hb=>
   have hrun:(do let d ←Deferred.ofValue (.func (.yield b) #[] #[]) xs; invoke d.target d.args:Sem Next).run P w = (Instr.yield b xs).run P w:=by
    simp [Deferred.ofValue,invoke]
   rw [hrun]
   exact hC.round id args st out st' G w b xs h hGl hR hb hx
 rename_i g first cap
 obtain ⟨us,ys,rfl⟩:∃ us ys,fv = .func (.func g) us ys:=by cases hf; exact ⟨_,_,rfl⟩
 obtain ⟨h1,h2⟩:=fn_VRs hf
 have hargs:VRs G (first ++ args ++ cap) (us ++ xs ++ ys).toList:=by simpa using (h1.append hx).append h2
 have hrun:(do let d ←Deferred.ofValue (.func (.func g) us ys) xs; invoke d.target d.args:Sem Next).run P w = (callFunc g (us ++ xs ++ ys)).run P w:=by
  simp [Deferred.ofValue,invoke]
 rw [hrun]
 unfold callA at h
 split at h
 ·rename_i p hp
  exact hS.prims g p hp _ st out st' G w _ h hR hargs
 ·have hg:g ≠ rnd:=fun e=>by subst e; simp [rnd] at h
  have h:C g (first ++ args ++ cap) st = some (out,st'):=by
   cases hb:Nat.beq g rnd with
   | true=>exact absurd (Nat.eq_of_beq_eq_true hb) hg
   | false=>rw [hb] at h; exact h
  obtain ⟨fn,hfn,hb⟩:=hI _ _ _ _ h hg
  obtain ⟨h3,h4⟩:=hS.fns g fn hfn
  obtain ⟨c,hc⟩:=Option.isSome_iff_exists.1 hb
  have:(callFunc g (us ++ xs ++ ys)).run P w = .ok (.enter g (us ++ xs ++ ys)) w:=by
   have h1 : fn.name ≠ "runtime.NumGoroutine" := by simpa using h4
   simp [callFunc,h3,h1,hc]
  rw [this]
  exact hC.call g _ st out st' G w _ h hg hGl hR hargs
theorem g_builtin (hS:a1U P A w0) (hR:Rel A.bld A.u8 w0 G st w) {wr:Bool} {b:Builtin} {ts:List TypeId} {args:List AV} {xs:Array Value} {k:Out→Sto→Option R} {r:R} (h:a08 A wr b ts args st k = some r) (hx:VRs G args xs.toList) :
  ∃ out st',k out st' = some r∧∀ (ty:TypeId) (cs:Array Bool),OpOK P A w0 G out st' ((builtin b ts.toArray ty cs xs).run P w):=by
 unfold a08 at h
 have two:∀ {x y:AV},VRs G [x,y] xs.toList→∃ a b,xs = #[a,b]∧VR G x a∧VR G y b:=by
  intro x y hh
  obtain ⟨a,l,e1,h1,hh⟩:=hh.head
  obtain ⟨b,l,e2,h2,hh⟩:=hh.head
  have:l = []:=List.eq_nil_of_length_eq_zero (by rw [←hh.len]; rfl)
  subst this
  subst e2
  exact ⟨a,b,by apply Array.ext'; simpa using e1,h1,h2⟩
 split at h
 ·obtain ⟨a,l,e1,h1,hh⟩:=hx.head
  have:l = []:=List.eq_nil_of_length_eq_zero (by rw [←hh.len]; rfl)
  subst this
  obtain rfl:xs = #[a]:=by apply Array.ext'; simpa using e1
  obtain ⟨v,hv,hg⟩:=g_len hS.tab hR h h1
  exact ⟨_,_,hv,fun ty cs=>(hg ty).op⟩
 ·obtain ⟨a,b,rfl,h1,h2⟩:=two hx
  obtain ⟨v,s,h3,h4⟩:=a2K h
  exact ⟨_,_,h4,fun ty cs=>(g_append hS.tab hR h3 h1 h2).op⟩
 ·obtain ⟨a,b,rfl,h1,h2⟩:=two hx
  obtain ⟨n,hn,h⟩:=bind_some h
  obtain ⟨m,hm,h⟩:=bind_some h
  obtain rfl:=a0L hn
  obtain rfl:=a0L hm
  cases h1; cases h2
  exact ⟨_,_,h,fun ty cs=>P5.op (P5.same hR (v' := .int .i64 (mxI n m)) (by simp [Builtin.max_,Builtin.max2,mxI]) (.int _ _))⟩
 ·obtain ⟨a,b,rfl,h1,h2⟩:=two hx
  obtain ⟨n,hn,h⟩:=bind_some h
  obtain ⟨m,hm,h⟩:=bind_some h
  obtain rfl:=a0L hn
  obtain rfl:=a0L hm
  cases h1; cases h2
  exact ⟨_,_,h,fun ty cs=>P5.op (P5.same hR (v' := .int .i64 (mnI n m)) (by simp [Builtin.min_,Builtin.min2,mnI]) (.int _ _))⟩
 ·cases h
theorem VR.bool_inv {b:Bool} {v:Value} (h:VR G (.bool b) v):v = .bool b:=by cases h; rfl
theorem VR.str_inv {s:ByteArray} {v:Value} (h:VR G (.str s) v):v = .string s:=by cases h; rfl
theorem a4A (hS:a1U P A w0) {C:Call} (hC:a2w P A w0 C) (hI:a3n A C) (hGl:a04 A G) (hR:Rel A.bld A.u8 w0 G st w) {wr:Bool} {ev:Operand→AV} {ρ:Operand→Value} (hev:∀ x,VR G (ev x) (ρ x)) {o:Oper}
  {k:Out→Sto→Option R} {r:R} (h:a07 A C wr ev o st k = some r):∃ out st',k out st' = some r∧OpOK P A w0 G out st' ((execOp ρ o).run P w):=by
 obtain ⟨dst,op,type,pos,after,guard⟩:=o
 cases op with
 | move x=>exact ⟨_,_,h,a1J hR (hev x)⟩
 | assign x=>exact ⟨_,_,h,a1J hR (hev x)⟩
 | pick c a b=>
  simp only [a07,pickK] at h
  obtain ⟨t,ht,h⟩:=bind_some h
  have hc:=hev c
  rw [a2R ht] at hc
  have hcv:ρ c = .bool t:=hc.bool_inv
  have hrun:(execOp ρ ⟨dst, .pick c a b,type,pos,after,guard⟩).run P w = .ok (.value (if t then ρ a else ρ b)) w:=by
   simp [execOp,hcv,asBool]
  rw [hrun]
  cases t
  ·simp only [cond_false] at h
   obtain ⟨x,hx,h⟩:=bind_some h
   refine ⟨_,_,h,a1J hR ?_⟩
   have:=hev b; rw [a2R hx] at this; exact this
  ·simp only [cond_true] at h
   obtain ⟨x,hx,h⟩:=bind_some h
   refine ⟨_,_,h,a1J hR ?_⟩
   have:=hev a; rw [a2R hx] at this; exact this
 | alloc t=>
  simp only [a07] at h
  obtain ⟨td,ht,h2⟩:=bind_some h
  clear h
  split at h2
  ·rename_i hb
   subst hb
   exact ⟨_,_,h2,(g_allocBld hS.tab hS.bld hR ht _).op⟩
  ·exact ⟨_,_,h2,(g_alloc hS.tab hR ht _).op⟩
 | box t x=>
  simp only [a07] at h
  split at h
  ·rename_i hc
   exact ⟨_,_,h,(g_box hR (hev x) hc t).op⟩
  ·cases h
 | build t parts=>
  obtain ⟨v,h1,h2⟩:=Z0 h
  exact ⟨_,_,h2,(g_build hS.tab hR h1 (parts_R hev parts)).op⟩
 | buildSlice t len parts=>
  obtain ⟨v,s,h1,h2⟩:=a2K h
  exact ⟨_,_,h2,(g_buildSlice hS.tab hR h1 (parts_R hev parts)).op⟩
 | load t a=>
  simp only [a07] at h
  obtain ⟨td,ht,h⟩:=bind_some h
  obtain ⟨v,h1,h2⟩:=Z0 h
  exact ⟨_,_,h2,(g_load hS.tab hR ht h1 (hev a)).op⟩
 | store t a x=>
  simp only [a07] at h
  obtain ⟨td,ht,h⟩:=bind_some h
  obtain ⟨s,h1,h2⟩:=a3v h
  exact ⟨_,_,h2,(g_store hS.tab hR ht h1 (hev a) (hev x)).op⟩
 | nilCheck x=>
  simp only [a07] at h
  obtain ⟨v,h1,h2⟩:=Z0 h
  refine ⟨_,_,h2,?_⟩
  have hx:=hev x
  unfold O2 at h1
  split at h1 <;> cases h1 <;> rename_i hxx <;> rw [hxx] at hx <;> generalize hv:ρ x = xv at hx <;> cases hx <;> simp only [execOp,hv] <;> exact a1J hR (by rw [←hxx,←hv]; exact hev x)
 | binOp op t x y z=>
  simp only [a07] at h
  obtain ⟨td,ht,h⟩:=bind_some h
  obtain ⟨v,h1,h2⟩:=op_bin hS hR ht h (hev x) (hev y)
  exact ⟨_,_,h1,h2.op⟩
 | unOp op t x=>
  simp only [a07] at h
  obtain ⟨td,ht,h⟩:=bind_some h
  obtain ⟨v,h1,v',h2,h3⟩:=g_un (P:=P) (w:=w) h (hev x)
  exact ⟨_,_,h1,(P5.same hR h2 h3).op⟩
 | convert s d x=>
  simp only [a07] at h
  obtain ⟨v,s,h1,h2⟩:=g_conv hS.tab hR h (hev x)
  exact ⟨_,_,h1,h2.op⟩
 | makeInterface t x=>
  simp only [a07] at h
  obtain ⟨td,ht,h⟩:=bind_some h
  obtain ⟨_,d,_,hd,_,_,hk,_⟩:=(hS.tab t td ht).ok
  have hni:∀ ms,d ≠ .interface ms:=by
   rintro ms rfl
   split at h
   ·cases h
   ·rename_i hk'
    cases htk:td.k <;> simp [htk,Q0] at hk
    exact hk' _ htk
  split at h
  ·cases h
  ·refine ⟨_,_,h,P5.op (P5.same hR (v' := .iface t (ρ x)) ?_ (.ifc t _ _ (hev x)))⟩
   simp only [Instr.makeInterface,Sem.run_bind,run_underlying hd,Result.andThen_ok]
   cases d <;> first | (exact absurd rfl (hni _)) | rfl
 | makeFunc f first cap=>
  have hf:∀ l,f ≠ .yield l:=by
   rintro l rfl
   simp [a07] at h
  have h1:=VRs.map hev first.toList
  have h2:=VRs.map hev cap.toList
  refine ⟨.ret (.fn f (first.toList.map ev) (cap.toList.map ev)),st,?_,P5.op (P5.same hR (v' := .func f (first.map ρ) (cap.map ρ)) rfl (.fn _ _ _ _ _ hf (by simp) (by simp) (fun j a v ha hv=>h1.at_ j a v ha (by simpa using hv)) (fun j a v ha hv=>h2.at_ j a v ha (by simpa using hv))))⟩
  cases f <;> first | exact h | exact absurd rfl (hf _)
 | makeMap t rv=>
  cases rv with
  | none=>exact ⟨_,_,h,(g_makeMap hR t).op⟩
  | some x=>simp [a07] at h
 | makeSlice t l c=>
  obtain ⟨v,s,h1,h2⟩:=a2K h
  exact ⟨_,_,h2,(g_makeSlice hS.tab hR h1 (hev l) (hev c)).op⟩
 | slice t x lo hi mx=>
  have ho:∀ x:Option Operand,OVR G (x.map ev) (x.map ρ):=by
   intro x
   cases x with
   | none=>exact .inl ⟨rfl,rfl⟩
   | some y=>exact .inr ⟨_,_,rfl,rfl,hev y⟩
  simp only [a07] at h
  obtain ⟨v,h1,h2⟩:=g_slice hS.tab hR h (hev x) (ho lo) (ho hi) (ho mx)
  exact ⟨_,_,h1,h2.op⟩
 | fieldAddr s x f=>
  obtain ⟨v,h1,h2⟩:=Z0 h
  exact ⟨_,_,h2,(g_fieldAddr hS.tab hR h1 (hev x)).op⟩
 | field s x f=>
  obtain ⟨v,h1,h2⟩:=Z0 h
  exact ⟨_,_,h2,(g_field hS.tab hR h1 (hev x)).op⟩
 | indexAddr t x i=>
  obtain ⟨v,h1,h2⟩:=Z0 h
  exact ⟨_,_,h2,(g_indexAddr hS.tab hR h1 (hev x) (hev i)).op⟩
 | index t x i=>
  simp only [a07] at h
  obtain ⟨v,h1,h2⟩:=g_index hS.tab hR h (hev x) (hev i)
  exact ⟨_,_,h1,h2.op⟩
 | lookup t m key ok=>
  obtain ⟨v,h1,h2⟩:=Z0 h
  exact ⟨_,_,h2,(g_lookup hS.tab hR h1 (hev m) (hev key)).op⟩
 | mapUpdate t m key v=>
  obtain ⟨s,h1,h2⟩:=a3v h
  exact ⟨_,_,h2,(g_mapSet hS.tab hR h1 (hev m) (hev key) (hev v)).op⟩
 | insert t m key v=>
  obtain ⟨s,h1,h2⟩:=a3v h
  exact ⟨_,_,h2,(g_mapSet hS.tab hR h1 (hev m) (hev key) (hev v)).op⟩
 | range t x=>
  simp only [a07] at h
  obtain ⟨td,ht,h⟩:=bind_some h
  obtain ⟨_,d,_,hd,_,_,hk,_⟩:=(hS.tab t td ht).ok
  split at h
  ·rename_i hs
   rw [hs] at hk
   obtain rfl:=a2s hk
   obtain ⟨s,h1,h⟩:=bind_some h
   have hx:=hev x
   rw [asS_some h1] at hx
   have hv:ρ x = .string s:=hx.str_inv
   refine ⟨_,_,h,?_⟩
   have:=(g_range hR hd s).op
   rw [←hv] at this
   exact this
  ·cases h
 | next x b=>
  obtain ⟨v,s,h1,h2⟩:=a2K h
  exact ⟨_,_,h2,(g_next hR h1 (hev x) type).op⟩
 | typeAssert x xt t ok=>
  obtain ⟨v,h1,h2⟩:=Z0 h
  exact ⟨_,_,h2,(g_assert hS.tab hR h1 (hev x)).op⟩
 | extract x i=>
  obtain ⟨v,h1,h2⟩:=Z0 h
  exact ⟨_,_,h2,(g_ext hR h1 (hev x)).op⟩
 | panic x=>
  simp only [a07] at h
  split at h
  ·rename_i t v hx
   have hxv:=hev x
   rw [hx] at hxv
   refine ⟨_,_,h,?_⟩
   generalize hv:ρ x = xv at hxv
   have hrun:(execOp ρ ⟨dst, .panic x,type,pos,after,guard⟩).run P w = .halt (.panic xv) w:=by
    cases hxv
    simp [execOp,hv,Instr.panic,goPanic]
   rw [hrun]
   exact ⟨G,Gh.le.refl G,hR,_,_,rfl,rfl,hxv⟩
  ·cases h
 | call c=>
  obtain ⟨callee,args,argTypes⟩:=c
  have hargs:VRs G (args.toList.map ev) (args.map ρ).toList:=by simpa using VRs.map hev args.toList
  cases callee with
  | builtin b=>
   obtain ⟨out,s,h1,h2⟩:=g_builtin hS hR (b:=b) (ts:=argTypes.toList) h hargs
   refine ⟨_,_,h1,?_⟩
   simp only [execOp,resolve,invoke,Sem.run_bind,Sem.run_pure,Result.andThen_ok]
   exact h2 _ _
  | value f=>
   simp only [a07] at h
   obtain ⟨⟨out,s⟩,h1,h2⟩:=bind_some h
   exact ⟨_,_,h2,g_invoke hS hC hI hGl hR h1 (hev f) hargs⟩
  | invoke recv m=>simp [a07] at h
 | _=>simp [a07] at h
end
end Go.St
namespace Go.St
open Go.RowKit
set_option linter.unusedVariables false
set_option linter.unusedSimpArgs false
section
variable {P:Program} {A:P2} {w0:World} {G:Gh} {st st':Sto} {w:World} {R:Type}
theorem a0C.at_ {env:List AV} {dfr:List a3I} {a:Act} (h:a0C G env dfr a) {t:Nat} {x:AV} (hx:env[t]? = some x):∃ v,a.tmps[t]? = some v∧VR G x v:=by
 obtain ⟨v,h1,h2⟩:=h.vals.get hx
 exact ⟨v,by simpa using h1,h2⟩
theorem a0C.told {env:List AV} {dfr:List a3I} {a:Act} (h:a0C G env dfr a) {t:Nat} {b:Bool} (hx:env[t]? = some (.bool b)):a0C G (env.set t (.bool b)) dfr a:=by
 obtain ⟨v,h1,h2⟩:=h.at_ hx
 refine ⟨⟨by simpa using h.vals.len,fun j x y hx' hy=>?_⟩,h.dfr⟩
 by_cases hj:t = j
 ·subst hj
  rw [List.getElem?_set_self (List.getElem?_eq_some_iff.1 hx).1] at hx'
  cases hx'
  simp only [Array.getElem?_toList,h1,Option.some.injEq] at hy
  subst hy
  exact h2
 ·rw [List.getElem?_set_ne hj] at hx'
  exact h.vals.at_ j x y hx' hy
theorem set_same' {α:Type} {l:List α} {t:Nat} {a:α} (h:l[t]? = some a):l.set t a = l:=by
 apply List.ext_getElem?
 intro i
 by_cases hi:t = i
 ·subst hi
  rw [List.getElem?_set_self (List.getElem?_eq_some_iff.1 h).1,h]
 ·rw [List.getElem?_set_ne hi]
theorem a2Y {ops:Array Oper} {o:Oper} {env:List AV} {dfr:List a3I} {a:Act} (hA:a0C G env dfr a) {yes no:List AV→Option R} {r:R} (h:a0x ops o env yes no = some r) :
  (Region.wanted o (yielded ops a.tmps) = true∧∃ env',a0C G env' dfr a∧yes env' = some r)∨(Region.wanted o (yielded ops a.tmps) = false∧∃ env',a0C G env' dfr a∧no env' = some r):=by
 unfold a0x at h
 unfold Region.wanted
 cases hg:o.guard with
 | none=>simp only [hg] at h; exact .inl ⟨rfl,env,hA,h⟩
 | some p=>
  obtain ⟨j,want⟩:=p
  simp only [hg] at h ⊢
  unfold yielded
  cases hd:(ops[j]?).bind (·.dst) with
  | none=>simp only [hd] at h; exact .inr ⟨by simp,env,hA,h⟩
  | some t=>
   simp only [hd,Option.bind_some] at h ⊢
   cases he:env[t]? with
   | none=>
    simp only [he] at h
    have:a.tmps[t]? = none:=by
     have h1:=List.getElem?_eq_none_iff.1 he
     have h2:env.length = a.tmps.size:=by simpa using hA.vals.len
     rw [Array.getElem?_eq_none_iff]
     exact h2 ▸ h1
    rw [this]
    exact .inr ⟨by simp,env,hA,h⟩
   | some x=>
    obtain ⟨v,h1,h2⟩:=hA.at_ he
    simp only [he] at h
    rw [h1]
    obtain ⟨g,hg,h⟩:=bind_some h
    unfold R3 at hg
    split at hg
    ·rename_i b
     cases hg
     simp only [gOn] at h
     have hv:=h2.bool_inv
     subst hv
     have hA':=hA.told he
     cases b <;> cases want <;> simp only [cond_true,cond_false] at h
     ·exact .inl ⟨by simp,_,hA',h⟩
     ·exact .inr ⟨by simp,_,hA',h⟩
     ·exact .inr ⟨by simp,_,hA',h⟩
     ·exact .inl ⟨by simp,_,hA',h⟩
    ·cases hg
     simp only [gOn] at h
     rw [set_same' he] at h
     cases h2
     exact .inr ⟨by simp,env,hA,h⟩
    ·cases hg
theorem a2o {C:Call} {wr:Bool} {ev:Operand→AV} {o:Oper} {st:Sto} {k:Out→Sto→Option R} {r:R} (h:a07 A C wr ev o st k = some r):∀ c,o.op ≠ .defer c:=by
 intro c hc
 unfold a07 at h
 rw [hc] at h
 cases h
theorem a4t {ro:Option Nat} {o:Oper} {a:Act} {dfr:List a3I} {env:List AV} {out:Out} {s:Sto} {next:Act→World→Prop} {Q:Exit→Act→World→Prop} (hA:a0C G env dfr a) (hd:∀ c,o.op ≠ .defer c)
  (hop:OpOK P A w0 G out s ((execOp a.eval o).run P w))
  (hret:∀ v x G' w',out = .ret x→G.le G'→Rel A.bld A.u8 w0 G' s w'→VR G' x v→next (a.put o.dst v) w')
  (hpan:∀ v x G' w',out = .pan x→G.le G'→Rel A.bld A.u8 w0 G' s w'→VR G' x v→Q (.panic [{ v,recovered:=false }]) a w'):o.wpIn (WF ro) 0 P a w next Q:=by
 refine ⟨fun _ _=>trivial,?_⟩
 rw [Oper.semAt_eq _ _ _ hd]
 generalize hres:(execOp a.eval o).run P w = res at hop
 have post:∀ e w'',a0f A w0 G out s e w''→(match e,w'' with
   | .returned v,w''=>next (a.put o.dst v) w''
   | .panicked chain,w''=>Q (.panic chain) a w''
   | .outgrown,_=>LetsOut Q):=by
  intro e w'' he
  cases e with
  | returned v=>
   obtain ⟨G',k1,k2,x,hx,k3⟩:=he
   exact hret v x G' w'' hx k1 k2 k3
  | panicked ch=>
   obtain ⟨G',k1,k2,x,v,hx,rfl,k3⟩:=he
   exact hpan v x G' w'' hx k1 k2 k3
  | outgrown=>exact he.elim
 cases res with
 | ok n w'=>
  cases n <;> simp only [OpOK] at hop
  case value v=>
   obtain ⟨G',k1,k2,x,hx,k3⟩:=hop
   exact hret v x G' w' hx k1 k2 k3
  case skip=>
   obtain ⟨G',k1,k2,x,hx,k3⟩:=hop
   exact hret undef x G' w' hx k1 k2 k3
  case enter f args=>
   exact ⟨WF.deep,WF.calls (Calls.mono hop post)⟩
  case round l f tmps assign body=>
   exact ⟨WF.deep,RoundIn.mono (F:=WF ro) (show RoundIn (WF ro) 0 P l f tmps assign body w' _ from hop) post⟩
 | halt hh w'=>
  cases hh <;> simp only [OpOK] at hop
  case panic v=>
   obtain ⟨G',k1,k2,x,v',hx,hv,k3⟩:=hop
   cases hv
   exact hpan _ x G' w' hx k1 k2 k3
theorem runOps_sound (hS:a1U P A w0) {C:Call} (hC:a2w P A w0 C) (hI:a3n A C) {nt:a0o} {rid:Nat} {ops:Array Oper} {kn:List AV→Sto→Option R} {kp:AV→Sto→Option R} {r:R} {G0:Gh} (hGl:a04 A G0) (ro:Option Nat) (dfr:List a3I) :
  ∀ (l:List Oper) (i:Nat),ops.toList.drop i = l→∀ (env:List AV) (st:Sto) (G:Gh) (a:Act) (w:World),G0.le G→Rel A.bld A.u8 w0 G st w→a0C G env dfr a→a3m A C nt rid ops kn kp l i env st = some r →
   wpOpsIn (WF ro) 0 P ops (RQ A w0 G0 dfr kn kp r) (List.range' i l.length) a w:=by
 intro l
 induction l with
 | nil=>
  intro i hi env st G a w hG hR hA h
  exact ⟨env,st,G,hG,hR,hA,h⟩
 | cons o l ih=>
  intro i hi env st G a w hG hR hA h
  have hoi:ops[i]? = some o:=by
   have h1:(ops.toList.drop i)[0]? = some o:=by rw [hi]; rfl
   simpa using h1
  have hi':ops.toList.drop (i + 1) = l:=by rw [←List.drop_drop,hi]; rfl
  simp only [a3m] at h
  simp only [List.length_cons,List.range'_succ,wpOpsIn,hoi]
  rcases a2Y hA h with ⟨hw,env',hA',h⟩ | ⟨hw,env',hA',h⟩
  ·rw [if_pos hw]
   have hnd:=a2o h
   obtain ⟨out,s,h,hop⟩:=a4A hS hC hI (hGl.mono hG) hR (evA_VR hA' (hGl.mono hG)) h
   refine a4t hA' hnd hop (fun v x G' w' hx k1 k2 k3=>?_) (fun v x G' w' hx k1 k2 k3=>?_)
   ·subst hx
    simp only [Out.on] at h
    exact ih (i + 1) hi' _ _ G' _ w' (hG.trans k1) k2 ((hA'.mono k1).put _ k3) h
   ·subst hx
    simp only [Out.on] at h
    exact ⟨x,v,s,G',rfl,hG.trans k1,k2,k3,hA'.dfr.mono k1,h⟩
  ·rw [if_neg (by simp [hw])]
   exact ⟨fun _ _=>trivial,ih (i + 1) hi' _ _ G _ w hG hR (hA'.put _ (a1x G)) h⟩
end
end Go.St
namespace Go.St
open Go.RowKit
set_option linter.unusedVariables false
set_option linter.unusedSimpArgs false
theorem VR.older {G:Gh} {n:Nat} (hd:∀ i g x,G.ρ i g = some x→i < n) {a:AV} {v:Value} (h:VR G a v):a.old n = true:=by
 induction h with
 | any v=>rfl
 | one v h=>rfl
 | bool b=>rfl
 | int k n=>rfl
 | str s=>rfl
 | nilp=>rfl
 | ip cs b o l hH hl hh ih=>simp only [AV.old]; exact all_at (G:=G) hl ih
 | mp id g off b o hh=>simp only [AV.old,decide_eq_true_eq]; exact hd _ _ _ hh
 | nils=>rfl
 | is row len tok b o cap l hH hl hc ht hh h1 ih=>
  simp only [AV.old,Bool.and_eq_true]
  refine ⟨all_at (G:=G) hl ih,?_⟩
  cases tok with
  | no=>rfl
  | full=>rfl
  | cut n=>rfl
  | tip i g es=>obtain ⟨⟨m,x,hx⟩,_⟩:=ht; simp only [Tok.old,decide_eq_true_eq]; exact hd _ _ _ hx
 | is0 a cap=>rfl
 | ms id g off len es b o cap a hh hc ha=>simp only [AV.old,decide_eq_true_eq]; exact hd _ _ _ hh
 | nilm=>rfl
 | mr id b hh=>simp only [AV.old,decide_eq_true_eq]; exact hd _ _ _ hh
 | fn f as cs xs ys hf hx hy hh hk ih ik=>
  simp only [AV.old,Bool.and_eq_true]
  refine ⟨⟨all_at' hx ih,all_at' hy ik⟩,?_⟩
  trivial
 | nilfn=>rfl
 | ifc t a v hh ih=>simpa [AV.old] using ih
 | nili=>rfl
 | agg as xs hx hh ih=>simp only [AV.old]; exact all_at' hx ih
 | tup as xs hx hh ih=>simp only [AV.old]; exact all_at' hx ih
 | it id b hh=>simp only [AV.old,decide_eq_true_eq]; exact hd _ _ _ hh
 | yl id b hh=>simp only [AV.old,decide_eq_true_eq]; exact hd _ _ _ hh
theorem VRs.older {G:Gh} {n:Nat} (hd:∀ i g x,G.ρ i g = some x→i < n) {as:List AV} {vs:List Value} (h:VRs G as vs):olds n as = true:=by
 rw [W1]
 intro a ha
 obtain ⟨j,hj,rfl⟩:=List.getElem_of_mem ha
 obtain ⟨v,_,hv⟩:=h.get (List.getElem?_eq_getElem hj)
 exact hv.older hd
theorem VRs.cut {G:Gh} {n:Nat} {as:List AV} {vs:List Value} (h:VRs G as vs) (ho:olds n as = true):VRs (G.cut n) as vs:=by
 rw [W1] at ho
 exact ⟨h.len,fun j a v ha hv=>(h.at_ j a v ha hv).cut (ho a (List.mem_of_getElem? ha))⟩
theorem ObR.older {T e:TypeId} {G:Gh} {own:Nat→Option Nat} {w:World} {i n:Nat} {ob:Ob} (hd:∀ i g x,G.ρ i g = some x→i < n) (h:ObR T e G own w i ob):ob.old n = true:=by
 cases ob with
 | cells g cs fz=>
  obtain ⟨b,o,arr,t,fr,h1,h2,h3,h4,h5,h6,h7,h9,h8⟩:=h
  exact h7.older hd
 | map es=>
  obtain ⟨b,arr,h1,h2,h3,h4,h5⟩:=h
  simp only [Ob.old,List.all_eq_true,Bool.and_eq_true]
  intro x hx
  obtain ⟨j,hj,rfl⟩:=List.getElem_of_mem hx
  have hj':j < arr.size:=by omega
  obtain ⟨k1,k2,_⟩:=h5 j _ _ (List.getElem?_eq_getElem hj) (Array.getElem?_eq_getElem hj')
  exact ⟨k1.older hd,k2.older hd⟩
 | loop l=>
  obtain ⟨b,r,tmps,h1,h2,h3,h4,h5,h6,h7,h8⟩:=h
  exact h7.older hd
 | _=>rfl
def a2x (n:Nat) (own:Nat→Option Nat):Nat→Option Nat:=fun b=>match own b with | some i=>if i < n then some i else none | none=>none
theorem U9 {n i b:Nat} {own:Nat→Option Nat} (h:own b = some i) (hi:i < n):a2x n own b = some i:=by simp [a2x,h,hi]
theorem ObR.cut {T e:TypeId} {G:Gh} {own:Nat→Option Nat} {w:World} {i n:Nat} {ob:Ob} (h:ObR T e G own w i ob) (hi:i < n) (ho:ob.old n = true):ObR T e (G.cut n) (a2x n own) w i ob:=by
 have hρ:∀ g x,G.ρ i g = some x→(G.cut n).ρ i g = some x:=fun g x hx=>by simp [Gh.cut,hi,hx]
 cases ob with
 | dead=>trivial
 | cells g cs fz=>
  obtain ⟨b,o,arr,t,fr,h1,h2,h3,h4,h5,h6,h7,h9,h8⟩:=h
  exact ⟨b,o,arr,t,fr,hρ _ _ h1,U9 h2 hi,h3,h4,h5,h6,h7.cut ho,h9,h8⟩
 | tip g=>
  obtain ⟨b,l,arr,t,fr,h1,h2,h3,h4,h5,h6⟩:=h
  exact ⟨b,l,arr,t,fr,hρ _ _ h1,U9 h2 hi,h3,h4,h5,h6⟩
 | bld s=>
  obtain ⟨b,h1,h2,p,v,hp,hb,hH,hv⟩:=h
  refine ⟨b,hρ _ _ h1,U9 h2 hi,p,v,hp,hb,hH,?_⟩
  rcases hv with hv | ⟨g,cap,cur,fz,hv,hg,r⟩
  ·exact .inl hv
  ·exact .inr ⟨g,cap,cur,fz,hv,U9 hg hi,r⟩
 | iter s pos=>
  obtain ⟨b,h1,h2,h3⟩:=h
  exact ⟨b,hρ _ _ h1,U9 h2 hi,h3⟩
 | map es=>
  obtain ⟨b,arr,h1,h2,h3,h4,h5⟩:=h
  simp only [Ob.old,List.all_eq_true,Bool.and_eq_true] at ho
  refine ⟨b,arr,hρ _ _ h1,U9 h2 hi,h3,h4,fun j x y hx hy=>?_⟩
  obtain ⟨k1,k2,k3⟩:=h5 j x y hx hy
  obtain ⟨o1,o2⟩:=ho x (List.mem_of_getElem? hx)
  exact ⟨k1.cut o1,k2.cut o2,k3⟩
 | loop l=>
  obtain ⟨b,r,tmps,h1,h2,h3,h4,h5,h6,h7,h8⟩:=h
  exact ⟨b,r,tmps,hρ _ _ h1,hρ _ _ h2,U9 h3 hi,U9 h4 hi,h5,h6,h7.cut ho,h8⟩
theorem a13.cut {T e:TypeId} {w0:World} {G:Gh} {own:Nat→Option Nat} {st:Sto} {w:World} {n:Nat} (h:a13 T e w0 G own st w) (hn:n ≤ st.length) (ho:∀ i ob,i < n→st[i]? = some ob→ob.old n = true) :
  a13 T e w0 (G.cut n) (a2x n own) (st.take n) w:=by
 refine ⟨h.below,h.prot,h.size,fun i g x hx=>?_,fun b i hb=>?_,fun i ob hi=>?_⟩
 ·simp only [Gh.cut] at hx
  split at hx
  ·rename_i hi
   obtain ⟨ob,k1,k2⟩:=h.dom i g x hx
   exact ⟨ob,by rw [List.getElem?_take,if_pos hi]; exact k1,k2⟩
  ·cases hx
 ·unfold a2x at hb
  split at hb
  ·rename_i j hj
   exact h.ownlt b j hj
  ·cases hb
 ·rw [List.getElem?_take] at hi
  split at hi
  ·rename_i hin
   exact (h.obj i ob hi).cut hin (ho i ob hin hi)
  ·cases hi
theorem Gh.cut_le {G0 G:Gh} {n:Nat} (h:G0.le G) (hd:∀ i g x,G0.ρ i g = some x→i < n):G0.le (G.cut n):=
 ⟨fun i g x hx=>by simp [Gh.cut,hd i g x hx,h.ρ _ _ _ hx],h.H,h.Z⟩
section
variable {P:Program} {A:P2} {w0:World} {G:Gh} {st st':Sto} {w:World} {R:Type}
theorem Rel.dom_lt (hR:Rel A.bld A.u8 w0 G st w):∀ i g x,G.ρ i g = some x→i < st.length:=by
 obtain ⟨own,h⟩:=hR
 intro i g x hx
 obtain ⟨ob,ho,_⟩:=h.dom i g x hx
 exact (List.getElem?_eq_some_iff.1 ho).1
theorem Rel.olds (hR:Rel A.bld A.u8 w0 G st w):∀ (i:Nat) (ob:Ob),st[i]? = some ob→ob.old st.length = true:=by
 have hd:=hR.dom_lt
 obtain ⟨own,h⟩:=hR
 exact fun i ob hi=>(h.obj i ob hi).older hd
theorem a1P (hR:Rel A.bld A.u8 w0 G st w) {out:Out} {e:Ending} {w':World} (h:a0f A w0 G out st' e w'):a0f A w0 G (gc st (out,st')).1 (gc st (out,st')).2 e w':=by
 unfold gc
 split
 ·rename_i hc
  obtain ⟨h1,h2,h3⟩:=hc
  have key:∀ {G':Gh},G.le G'→Rel A.bld A.u8 w0 G' st' w'→G.le (G'.cut st.length)∧Rel A.bld A.u8 w0 (G'.cut st.length) (st'.take st.length) w':=by
   intro G' k1 ⟨own,k2⟩
   refine ⟨Gh.cut_le k1 hR.dom_lt,_,k2.cut h2 fun i ob hi hob=>?_⟩
   rcases h3 i hi with h3 | ⟨o,h3,h4⟩
   ·exact hR.olds i ob (h3.symm.trans hob)
   ·rw [h3] at hob; cases hob; exact h4
  cases e with
  | returned v=>
   obtain ⟨G',k1,k2,x,rfl,k3⟩:=h
   obtain ⟨m1,m2⟩:=key k1 k2
   exact ⟨_,m1,m2,_,rfl,k3.strip.cut h1⟩
  | panicked ch=>
   obtain ⟨G',k1,k2,x,v,rfl,rfl,k3⟩:=h
   obtain ⟨m1,m2⟩:=key k1 k2
   exact ⟨_,m1,m2,_,v,rfl,rfl,k3.strip.cut h1⟩
  | outgrown=>exact h.elim
 ·exact h
theorem gcT_sound (hR:Rel A.bld A.u8 w0 G st w) {out:Out} {e:Ending} {w':World} (h:a0f A w0 G out st' e w'):a0f A w0 G (gcT st (out,st')).1 (gcT st (out,st')).2 e w':=by
 unfold gcT
 split
 ·rename_i row len id g es hout
  simp only at hout
  subst hout
  split
  ·rename_i hc
   obtain ⟨h1,h2,h3,h4,h5⟩:=hc
   simp only at h3 h4
   show a0f A w0 G (.ret (.is (strips st.length row) len (.tip st.length 0 es))) (st'.take st.length ++ [.tip 0]) e w'
   cases e with
   | panicked ch=>obtain ⟨G',k1,k2,x,v,hx,_⟩:=h; cases hx
   | outgrown=>exact h.elim
   | returned v=>
    obtain ⟨G',k1,⟨own,k2⟩,x,hx,k3⟩:=h
    cases hx
    have hold:∀ i ob,i < st.length→st'[i]? = some ob→ob.old st.length = true:=by
     intro i ob hi hob
     rcases h5 i hi with h5 | ⟨o,h5,h6⟩
     ·exact hR.olds i ob (h5.symm.trans hob)
     ·rw [h5] at hob; cases hob; exact h6
    have kc:=k2.cut (n:=st.length) h4 hold
    obtain ⟨b0,l0,arr,t,fr,o1,o2,o3,o4,o5,o6⟩:=k2.obj id _ h3
    have hlt:(st'.take st.length).length = st.length:=by rw [List.length_take]; omega
    have hle:(G'.cut st.length).le ⟨fun i g'=>if i < st.length then G'.ρ i g' else if i = st.length∧g' = 0 then some (b0,l0.length) else none,G'.H,G'.Z⟩:=by
     refine ⟨fun i g' x hx=>?_,fun b l hl=>⟨[],by simpa [Gh.cut] using hl⟩,fun _ _ h=>h⟩
     simp only [Gh.cut] at hx
     split at hx
     ·rename_i hi
      simp only [hi,if_true]
      exact hx
     ·cases hx
    refine ⟨⟨fun i g'=>if i < st.length then G'.ρ i g' else if i = st.length∧g' = 0 then some (b0,l0.length) else none,G'.H,G'.Z⟩,⟨fun i g' x hx=>?_,k1.H,k1.Z⟩,
     ⟨fun b=>match own b with | some i=>if i < st.length then some i else if i = id then some st.length else none | none=>none,?_⟩,_,rfl,?_⟩
    ·simp only [hR.dom_lt i g' x hx,if_true]
     exact k1.ρ _ _ _ hx
    ·skip
     refine ⟨kc.below,kc.prot,kc.size,fun i g' x hx=>?_,fun b i hb=>?_,fun i ob hi=>?_⟩
     ·simp only at hx
      split at hx
      ·rename_i hi
       obtain ⟨ob,e1,e2⟩:=k2.dom i g' x hx
       exact ⟨ob,by rw [List.getElem?_append_left (by omega),List.getElem?_take,if_pos hi]; exact e1,e2⟩
      ·split at hx
       ·rename_i he
        obtain ⟨rfl,rfl⟩:=he
        exact ⟨.tip 0,by rw [List.getElem?_append_right (by omega),hlt]; simp,Nat.le_refl _⟩
       ·cases hx
     ·split at hb
      ·rename_i j hj
       exact k2.ownlt b j hj
      ·cases hb
     ·by_cases hin:i < st.length
      ·rw [List.getElem?_append_left (by omega)] at hi
       refine (kc.obj i ob hi).frame hle fun b hb=>⟨rfl,?_,rfl⟩
       unfold a2x at hb
       split at hb
       ·rename_i j hj
        split at hb
        ·rename_i hjl
         cases hb
         simp only [hj,hjl,if_true]
        ·cases hb
       ·cases hb
      ·have hlen:=(List.getElem?_eq_some_iff.1 hi).1
       rw [List.length_append,hlt] at hlen
       simp only [List.length_cons,List.length_nil] at hlen
       obtain rfl:i = st.length:=by omega
       rw [List.getElem?_append_right (by omega),hlt] at hi
       simp only [Nat.sub_self,List.getElem?_cons_zero,Option.some.injEq] at hi
       subst hi
       refine ⟨b0,l0,arr,t,fr,by simp,?_,o3,o4,o5,o6⟩
       have hid:¬ id < st.length:=by omega
       simp only [o2,hid,if_false,if_true]
    ·skip
     cases k3 with
     | is _ _ _ b o cap l hH hl hcap ht hh hone=>
      obtain ⟨_,ht⟩:=ht
      have hsl:=V3 st.length row
      refine .is _ len _ b o cap l hH (by rw [hsl]; exact hl) hcap ⟨⟨0,(b0,l0.length),by simp⟩,?_⟩ (fun j a v ha hv=>?_) (fun j v hj hv=>hone j v (by rwa [hsl] at hj) hv)
      ·rw [hsl]
       rcases ht with ht | ⟨t1,t2,m,t3,t4⟩
       ·exact .inl ht
       ·rw [o1] at t1
        exact .inr ⟨by simp only [Nat.lt_irrefl,if_false,and_self,if_true]; exact t1,t2,m,t3,t4⟩
      ·have ho:=(W1 _ _).1 h1 a (List.mem_of_getElem? ha)
       obtain ⟨c,hc,rfl⟩:=X7 st.length row j a ha
       exact (((hh j c v hc hv).strip).cut ho).mono hle
  ·exact a1P hR h
 ·exact a1P hR h
theorem list_eq {α:Type}:∀ {l m:List α},m.length = l.length→(∀ (j:Nat) (a b:α),l[j]? = some a→m[j]? = some b→b = a)→m = l:=by
 intro l m hl h
 refine List.ext_getElem hl fun j h1 h2=>?_
 exact h j _ _ (List.getElem?_eq_getElem h2) (List.getElem?_eq_getElem h1)
theorem a2M {α:Type} {P:α→α→Prop} {l m k:List α} (hm:m.length = l.length) (hk:k.length = l.length) (ih:∀ (j:Nat) (a b:α),l[j]? = some a→m[j]? = some b→∀ c,P a c→b = c) (h:∀ (j:Nat) (a c:α),l[j]? = some a→k[j]? = some c→P a c):m = k:=by
 refine List.ext_getElem (hm.trans hk.symm) fun j h1 h2=>?_
 have h0:j < l.length:=by omega
 exact ih j _ _ (List.getElem?_eq_getElem h0) (List.getElem?_eq_getElem h1) _ (h j _ _ (List.getElem?_eq_getElem h0) (List.getElem?_eq_getElem h2))
theorem Tok.strip_old {n:Nat} {t:Tok} (h:t.old n = true):t.strip n = t:=by
 cases t with
 | tip i g es=>simp only [Tok.old,decide_eq_true_eq] at h; simp only [Tok.strip,h,if_true]
 | _=>rfl
theorem Frz.old_eq {s:Sto} {n:Nat} {a b:AV} (h:Frz s n a b):a.old n = true→b = a:=by
 have key:∀ {cs ds:List AV},olds n cs = true→ds.length = cs.length→(∀ (j:Nat) (a b:AV),cs[j]? = some a→ds[j]? = some b→a.old n = true→b = a)→ds = cs:=fun ho hl ih=>
  list_eq hl fun j a b ha hb=>ih j a b ha hb ((W1 _ _).1 ho a (List.mem_of_getElem? ha))
 induction h with
 | old a h=>exact fun _=>rfl
 | ip cs ds hl h ih=>intro ho; rw [key (by simpa [AV.old] using ho) hl ih]
 | is row row' len tok hl h ih=>
  intro ho
  simp only [AV.old,Bool.and_eq_true] at ho
  rw [key ho.1 hl ih,Tok.strip_old ho.2]
 | ms id g off len es cs row' fz hn ho hb hl h ih=>intro ho; simp only [AV.old,decide_eq_true_eq] at ho; omega
 | ifc t a b h ih=>intro ho; rw [ih (by simpa [AV.old] using ho)]
 | agg cs ds hl h ih=>intro ho; rw [key (by simpa [AV.old] using ho) hl ih]
 | tup cs ds hl h ih=>intro ho; rw [key (by simpa [AV.old] using ho) hl ih]
theorem Frz.uniq {s:Sto} {n:Nat} {a b:AV} (h:Frz s n a b):∀ c,Frz s n a c→b = c:=by
 induction h with
 | old a h=>intro c k; exact (k.old_eq h).symm
 | ip cs ds hl h ih=>
  intro c k
  cases k with
  | old _ ho=>exact Frz.old_eq (.ip cs ds hl h) ho
  | ip _ es kl k=>rw [a2M hl kl ih k]
 | is row row' len tok hl h ih=>
  intro c k
  cases k with
  | old _ ho=>exact Frz.old_eq (.is row row' len tok hl h) ho
  | is _ es _ _ kl k=>rw [a2M hl kl ih k]
 | ms id g off len es cs row' fz hn ho hb hl h ih=>
  intro c k
  cases k with
  | old _ ho=>simp only [AV.old,decide_eq_true_eq] at ho; omega
  | ms _ _ _ _ _ cs2 row2 fz2 hn2 ho2 hb2 hl2 h2=>
   rw [ho] at ho2
   cases ho2
   congr 1
   refine List.ext_getElem (hl.trans hl2.symm) fun j h1' h2'=>?_
   have h0:off + j < cs.length:=by omega
   exact ih j _ _ (List.getElem?_eq_getElem h0) (List.getElem?_eq_getElem h1') _ (h2 j _ _ (List.getElem?_eq_getElem h0) (List.getElem?_eq_getElem h2'))
 | ifc t a b h ih=>
  intro c k
  cases k with
  | old _ ho=>exact Frz.old_eq (.ifc t a b h) ho
  | ifc _ _ b2 k=>rw [ih _ k]
 | agg cs ds hl h ih=>
  intro c k
  cases k with
  | old _ ho=>exact Frz.old_eq (.agg cs ds hl h) ho
  | agg _ es kl k=>rw [a2M hl kl ih k]
 | tup cs ds hl h ih=>
  intro c k
  cases k with
  | old _ ho=>exact Frz.old_eq (.tup cs ds hl h) ho
  | tup _ es kl k=>rw [a2M hl kl ih k]
open Classical in
theorem gcF_eq {st st':Sto} {v b:AV} (h:Frz st' st.length v b) (hl:st.length ≤ st'.length) (hk:Kept st.length st st'):gcF st (.ret v,st') = (.ret b,st'.take st.length):=by
 unfold gcF
 have hc:(∃ b,Frz st' st.length v b)∧st.length ≤ st'.length∧Kept st.length st st':=⟨⟨b,h⟩,hl,hk⟩
 show (if h:(∃ b,Frz st' st.length v b)∧st.length ≤ st'.length∧Kept st.length st st' then (Out.ret h.1.choose,st'.take st.length) else gc st (.ret v,st')) = _
 rw [dif_pos hc,h.uniq _ hc.1.choose_spec]
open Classical in
noncomputable def frzH (n:Nat) (G:Gh) (own:Nat→Option Nat) (w:World) (b:Nat):Option (List Value):=
 match G.H b with
 | some l=>some l
 | none=>match own b with
  | some i=>if n ≤ i then (match w.heap[b]? with | some (.cells arr _ _)=>some arr.toList | _=>none) else none
  | none=>none
noncomputable def Gh.frz (n:Nat) (G:Gh) (own:Nat→Option Nat) (w:World):Gh:=⟨(G.cut n).ρ,frzH n G own w,G.Z⟩
theorem a3E {n b:Nat} {G:Gh} {own:Nat→Option Nat} {w:World} {l:List Value} (h:G.H b = some l):frzH n G own w b = some l:=by
 unfold frzH; rw [h]
theorem frzH_old {n b i:Nat} {G:Gh} {own:Nat→Option Nat} {w:World} (h:own b = some i) (hi:i < n):frzH n G own w b = G.H b:=by
 unfold frzH
 cases hb:G.H b with
 | some l=>rfl
 | none=>
  have:¬ n ≤ i:=by omega
  simp only [h,this,if_false]
theorem frzH_new {n b i:Nat} {G:Gh} {own:Nat→Option Nat} {w:World} {arr:Array Value} {t fr:_} (hb:G.H b = none) (h:own b = some i) (hi:n ≤ i) (hw:w.heap[b]? = some (.cells arr t fr)):frzH n G own w b = some arr.toList:=by
 unfold frzH
 rw [hb]
 simp only [h,hi,if_true,hw]
theorem Gh.cut_le_frz (n:Nat) (G:Gh) (own:Nat→Option Nat) (w:World):(G.cut n).le (G.frz n own w):=
 ⟨fun _ _ _ h=>h,fun b l h=>⟨[],by rw [List.append_nil]; exact a3E h⟩,fun _ _ h=>h⟩
theorem Frz.VR {T e:TypeId} {w0:World} {G:Gh} {own:Nat→Option Nat} {st':Sto} {w:World} {n:Nat} (hR:a13 T e w0 G own st' w) {a b:AV} (h:Frz st' n a b):∀ v,VR G a v→VR (G.frz n own w) b v:=by
 have hle:=Gh.cut_le_frz n G own w
 induction h with
 | old a h=>intro v k; exact (k.cut h).mono hle
 | ip cs ds hl h ih=>
  intro v k
  cases k with
  | ip _ b o l hH hl2 hh=>
   refine .ip ds b o l (a3E hH) (by omega) fun j x v hx hv=>?_
   have hj:j < cs.length:=by have:=(List.getElem?_eq_some_iff.1 hx).1; omega
   exact ih j _ x (List.getElem?_eq_getElem hj) hx v (hh j _ v (List.getElem?_eq_getElem hj) hv)
 | is row row' len tok hl h ih=>
  intro v k
  cases k with
  | is _ _ _ b o cap l hH hl2 hc ht hh h1=>
   refine .is row' len _ b o cap l (a3E hH) (by omega) hc ?_ (fun j x v hx hv=>?_) fun j v hj hv=>h1 j v (by omega) hv
   ·rw [hl]
    cases tok with
    | no=>trivial
    | full=>exact ht
    | cut n=>exact ht
    | tip i g es=>
     by_cases hi:i < n
     ·simp only [Tok.strip,hi,if_true]
      obtain ⟨⟨m,x,hx⟩,ht⟩:=ht
      refine ⟨⟨m,x,by simp only [Gh.frz,Gh.cut,hi,if_true]; exact hx⟩,?_⟩
      rcases ht with ht | ⟨h1,h2⟩
      ·exact .inl ht
      ·exact .inr ⟨by simp only [Gh.frz,Gh.cut,hi,if_true]; exact h1,h2⟩
     ·simp only [Tok.strip,hi,if_false]; trivial
   ·have hj:j < row.length:=by have:=(List.getElem?_eq_some_iff.1 hx).1; omega
    exact ih j _ x (List.getElem?_eq_getElem hj) hx v (hh j _ v (List.getElem?_eq_getElem hj) hv)
  | is0 a cap=>
   obtain rfl:row' = []:=List.eq_nil_of_length_eq_zero (by simpa using hl)
   exact .is0 a cap
 | ms id g off len es cs row' fz hn ho hb hl h ih=>
  intro v k
  cases k with
  | ms _ _ _ _ _ b o cap a hh hc ha=>
   by_cases h0:cap = 0
   ·subst h0
    obtain rfl:len = 0:=by omega
    obtain rfl:row' = []:=List.eq_nil_of_length_eq_zero (by simpa using hl)
    exact .is0 a 0
   ·rcases ha with ha | ⟨rfl,_⟩
    ·exact absurd ha h0
    ·obtain ⟨b2,o2,arr,t,fr,e1,e2,e3,e4,e5,e6,e7,e8,e9⟩:=hR.obj id _ ho
     rw [hh] at e1
     cases e1
     have hal:arr.toList.length = arr.size:=by simp
     have hgt:∀ j v,j < row'.length→arr.toList[o + off + j]? = some v→((arr.toList.drop o).take cs.length)[off + j]? = some v:=fun j v hj hv=>by
      rw [List.getElem?_take_of_lt (by omega),List.getElem?_drop,show o + (off + j) = o + off + j by omega]; exact hv
     refine .is row' len .no b (o + off) cap arr.toList (frzH_new e3 e2 hn e5) (by omega) hc trivial (fun j x v hx hv=>?_) fun j v hj hv=>e8 v (List.mem_of_getElem? (hgt j v hj hv))
     have hj:j < row'.length:=(List.getElem?_eq_some_iff.1 hx).1
     have hj2:off + j < cs.length:=by omega
     exact ih j _ x (List.getElem?_eq_getElem hj2) hx v (e7.at_ (off + j) _ v (List.getElem?_eq_getElem hj2) (hgt j v hj hv))
 | ifc t a b h ih=>
  intro v k
  cases k with
  | ifc _ _ v k=>exact .ifc t b v (ih v k)
 | agg cs ds hl h ih=>
  intro v k
  cases k with
  | agg _ xs hx hh=>
   refine .agg ds xs (by omega) fun j x v hx hv=>?_
   have hj:j < cs.length:=by have:=(List.getElem?_eq_some_iff.1 hx).1; omega
   exact ih j _ x (List.getElem?_eq_getElem hj) hx v (hh j _ v (List.getElem?_eq_getElem hj) hv)
 | tup cs ds hl h ih=>
  intro v k
  cases k with
  | tup _ xs hx hh=>
   refine .tup ds xs (by omega) fun j x v hx hv=>?_
   have hj:j < cs.length:=by have:=(List.getElem?_eq_some_iff.1 hx).1; omega
   exact ih j _ x (List.getElem?_eq_getElem hj) hx v (hh j _ v (List.getElem?_eq_getElem hj) hv)
open Classical in
theorem gcF_sound (hR:Rel A.bld A.u8 w0 G st w) {out:Out} {e:Ending} {w':World} (h:a0f A w0 G out st' e w'):a0f A w0 G (gcF st (out,st')).1 (gcF st (out,st')).2 e w':=by
 cases out with
 | pan v=>exact a1P hR h
 | ret v=>
  by_cases hc:(∃ b,Frz st' st.length v b)∧st.length ≤ st'.length∧Kept st.length st st'
  ·obtain ⟨⟨b,hF⟩,h2,h3⟩:=hc
   rw [gcF_eq hF h2 h3]
   cases e with
   | panicked ch=>obtain ⟨G',k1,k2,x,v,hx,_⟩:=h; cases hx
   | outgrown=>exact h.elim
   | returned v=>
    obtain ⟨G',k1,⟨own,k2⟩,x,hx,k3⟩:=h
    cases hx
    have hold:∀ i ob,i < st.length→st'[i]? = some ob→ob.old st.length = true:=by
     intro i ob hi hob
     rcases h3 i hi with h5 | ⟨o,h5,h6⟩
     ·exact hR.olds i ob (h5.symm.trans hob)
     ·rw [h5] at hob; cases hob; exact h6
    have kc:=k2.cut (n:=st.length) h2 hold
    have hle:=Gh.cut_le_frz st.length G' own w'
    refine ⟨G'.frz st.length own w',(Gh.cut_le k1 hR.dom_lt).trans hle,⟨a2x st.length own,?_⟩,_,rfl,hF.VR k2 _ k3⟩
    refine ⟨kc.below,fun b l hb=>?_,kc.size,kc.dom,kc.ownlt,fun i ob hi=>(kc.obj i ob hi).frame hle fun b hb=>⟨rfl,hb,?_⟩⟩
    ·simp only [Gh.frz,frzH] at hb
     split at hb
     ·rename_i l' hl'
      cases hb
      exact k2.prot b l hl'
     ·split at hb
      ·split at hb
       ·split at hb
        ·rename_i arr t fr hw
         cases hb
         exact ⟨arr,t,fr,[],hw,by simp⟩
        ·cases hb
       ·cases hb
      ·cases hb
    ·unfold a2x at hb
     split at hb
     ·rename_i j hj
      split at hb
      ·rename_i hjl
       exact frzH_old hj hjl
      ·cases hb
     ·cases hb
  ·have:gcF st (.ret v,st') = gc st (.ret v,st'):=by
    unfold gcF
    show (if h:(∃ b,Frz st' st.length v b)∧st.length ≤ st'.length∧Kept st.length st st' then (Out.ret h.1.choose,st'.take st.length) else gc st (.ret v,st')) = _
    rw [dif_neg hc]
   rw [this]
   exact a1P hR h
theorem gcK_sound {m:Nat} (hR:Rel A.bld A.u8 w0 G st w) {out:Out} {e:Ending} {w':World} (h:a0f A w0 G out st' e w'):a0f A w0 G (gcK m st (out,st')).1 (gcK m st (out,st')).2 e w':=by
 match m with
 | 0=>exact a1P hR h
 | 1=>exact gcT_sound hR h
 | 2=>exact h
 | _ + 3=>exact gcF_sound hR h
end
end Go.St
namespace Go.St
set_option linter.unusedVariables false
set_option linter.unusedSimpArgs false
theorem bind_assoc' {α β γ:Type} (x:Option α) (f:α→Option β) (g:β→Option γ):(x.bind f).bind g = x.bind fun a=>(f a).bind g:=by cases x <;> rfl
def Ntr (F:(R:Type)→(Out→Sto→Option R)→Option R):Prop:=∀ (R:Type) (k:Out→Sto→Option R),F R k = (F (Out × Sto) (fun o s=>some (o,s))).bind fun x=>k x.1 x.2
def a2P (F:(R:Type)→(AV→Option R)→Option R):Prop:=∀ (R:Type) (c:AV→Option R),F R c = (F AV some).bind c
theorem Ntr.k (o:Out) (s:Sto):Ntr fun R k=>k o s:=fun R k=>rfl
theorem Ntr.none:Ntr fun R k=>none:=fun R k=>rfl
theorem Ntr.bind {α:Type} (x:Option α) {F:α→(R:Type)→(Out→Sto→Option R)→Option R} (h:∀ a,Ntr (F a)):Ntr fun R k=>x.bind fun a=>F a R k:=by
 intro R k
 cases x with
 | none=>rfl
 | some a=>exact h a R k
theorem Ntr.ite {p:Prop} [Decidable p] {F G:(R:Type)→(Out→Sto→Option R)→Option R} (hF:Ntr F) (hG:Ntr G):Ntr fun R k=>if p then F R k else G R k:=by
 intro R k
 by_cases h:p <;> simp only [h,if_true,if_false]
 ·exact hF R k
 ·exact hG R k
theorem a2P.k (v:AV):a2P fun R c=>c v:=fun R c=>rfl
theorem a2P.bind {α:Type} (x:Option α) {F:α→(R:Type)→(AV→Option R)→Option R} (h:∀ a,a2P (F a)):a2P fun R c=>x.bind fun a=>F a R c:=by
 intro R k
 cases x with
 | none=>rfl
 | some a=>exact h a R k
theorem a2P.ntr {F:(R:Type)→(AV→Option R)→Option R} (h:a2P F) (st:Sto):Ntr fun R k=>F R fun v=>k (.ret v) st:=by
 intro R k
 show F R (fun v=>k (.ret v) st) = (F (Out × Sto) (fun v=>some (.ret v,st))).bind fun x=>k x.1 x.2
 rw [h R,h (Out × Sto),bind_assoc']
 rfl
theorem ntr_binI (op:BinOp) (ik:IntKind) (x y:Int):a2P fun R c=>binI op ik x y c:=by
 intro R c
 cases op <;> simp only [binI] <;> first | rfl | (split <;> rfl)
theorem ntr_binS (op:BinOp) (x y:ByteArray):a2P fun R c=>binS op x y c:=by
 intro R c
 cases op <;> simp only [binS] <;> first | rfl | (split <;> rfl)
theorem ntr_binK (td:TD) (flat:List FK) (lit:Bool) (op:BinOp) (x y:AV):a2P fun R c=>binK td flat lit op x y c:=by
 intro R c
 unfold binK
 split
 ·rename_i ik _
  cases asI ik x with
  | none=>rfl
  | some a=>
   simp only [Option.bind_some]
   split
   ·cases asInt y with
    | none=>rfl
    | some b=>simp only [Option.bind_some]; exact ntr_binI _ ik a b R c
   ·cases asInt y with
    | none=>rfl
    | some b=>simp only [Option.bind_some]; exact ntr_binI _ ik a b R c
   ·cases asI ik y with
    | none=>rfl
    | some b=>simp only [Option.bind_some]; exact ntr_binI _ ik a b R c
 ·exact a2P.bind _ (F:=fun a R c=>(asS y).bind fun b=>binS op a b c) (fun a=>a2P.bind _ (F:=fun b R c=>binS op a b c) fun b=>ntr_binS _ _ _) R c
 ·split
  ·exact a2P.bind _ (F:=fun b R c=>c (.bool b)) (fun b=>a2P.k _) R c
  ·exact a2P.bind _ (F:=fun b R c=>c (.bool (!b))) (fun b=>a2P.k _) R c
  ·rfl
theorem ntr_unK (td:TD) (op:UnOp) (x:AV):a2P fun R c=>unK td op x c:=by
 intro R c
 unfold unK
 split
 ·split
  ·rename_i ik _; cases asI ik x <;> rfl
  ·rfl
 ·split
  ·rename_i ik _; cases asI ik x <;> rfl
  ·rfl
 ·cases asB x <;> rfl
 ·rfl
theorem a4C (A:P2) (t:TypeId) (x:AV) (lo hi mx:Option AV) (st:Sto):a2P fun R c=>a3g A t x lo hi mx st c:=by
 intro R c
 unfold a3g
 cases mx with
 | some _=>rfl
 | none=>
  cases ht:P0 t A.tab with
  | none=>rfl
  | some td=>
   simp only [Option.bind_some]
   cases td.k with
   | str=>cases asS x with
    | none=>rfl
    | some s=>
     simp only [Option.bind_some]
     cases bnd s.size s.size hi with
     | none=>rfl
     | some h=>
      simp only [Option.bind_some]
      cases bnd 0 h lo <;> rfl
   | slice e=>cases he:P0 e A.tab with
    | none=>simp only [he]; rfl
    | some te=>
     simp only [he,Option.bind_some]
     cases a06 te.size x lo hi <;> rfl
   | arr n e=>cases he:P0 e A.tab with
    | none=>simp only [he]; rfl
    | some te=>
     simp only [he,Option.bind_some]
     cases arrCut n te.size x lo hi st <;> rfl
   | _=>rfl
theorem a4u (A:P2) (t:TypeId) (x i:AV):a2P fun R c=>a3h A t x i c:=by
 intro R c
 unfold a3h
 cases ht:P0 t A.tab with
 | none=>rfl
 | some td=>
  simp only [Option.bind_some]
  cases td.k with
  | str=>cases asS x with
   | none=>rfl
   | some s=>
    simp only [Option.bind_some]
    cases asInt i with
    | none=>rfl
    | some j=>
     simp only [Option.bind_some]
     cases idx j s.size <;> rfl
  | arr n e=>cases he:P0 e A.tab with
   | none=>simp only [he]; rfl
   | some te=>
    simp only [he,Option.bind_some]
    cases ixArr te.isAgg n te.size x i <;> rfl
  | _=>rfl
theorem ntr_lenK (A:P2) (t:TypeId) (x:AV) (st:Sto):a2P fun R c=>lenK A t x st c:=by
 intro R c
 unfold lenK
 cases ht:P0 t A.tab with
 | none=>rfl
 | some td=>
  simp only [Option.bind_some]
  cases td.k with
  | str=>cases asS x <;> rfl
  | slice e=>cases P3 x <;> rfl
  | map k e=>cases lenM x st <;> rfl
  | _=>rfl
theorem ntr_pickK (x a b:AV):a2P fun R c=>pickK x a b c:=by
 intro R c
 unfold pickK
 cases asB x with
 | none=>rfl
 | some t=>
  simp only [Option.bind_some]
  cases t
  ·simp only [cond_false]; cases asB b <;> rfl
  ·simp only [cond_true]; cases asB a <;> rfl
section
variable {A:P2} {C:Call}
theorem ntr_one (r:Option AV) (st:Sto):Ntr fun R k=>one r st k:=Ntr.bind r (F:=fun v R k=>k (.ret v) st) fun v=>Ntr.k _ _
theorem ntr_two (r:Option (AV × Sto)):Ntr fun R k=>two r k:=Ntr.bind r (F:=fun v R k=>k (.ret v.1) v.2) fun v=>Ntr.k _ _
theorem ntr_unit (r:Option Sto):Ntr fun R k=>unit r k:=Ntr.bind r (F:=fun v R k=>k (.ret (.tup [])) v) fun v=>Ntr.k _ _
theorem ntr_convK (wr:Bool) (src dst:TypeId) (x:AV) (st:Sto):Ntr fun R k=>convK A wr src dst x st k:=by
 intro R k
 unfold convK
 cases P0 src A.tab with
 | none=>rfl
 | some ts=>
  cases P0 dst A.tab with
  | none=>rfl
  | some td=>
   simp only [Option.bind_some]
   cases td.k with
   | int ik=>cases asInt x <;> rfl
   | str=>cases ts.k with
    | slice e=>cases he:P0 e A.tab with
     | none=>simp only [he]; rfl
     | some te=>
      simp only [he,Option.bind_some]
      cases te.k with
      | int kk=>cases kk <;> first | rfl | (simp only; cases toText st x <;> rfl)
      | _=>rfl
    | str=>cases asS x <;> rfl
    | _=>cases asInt x <;> rfl
   | slice e=>cases ts.k with
    | str=>cases he:P0 e A.tab with
     | none=>simp only [he]; rfl
     | some te=>
      simp only [he,Option.bind_some]
      cases te.k with
      | int kk=>cases kk <;> first | rfl | (simp only; cases asS x with
       | none=>rfl
       | some s=>exact ntr_two _ R k)
      | _=>rfl
    | slice e2=>
     simp only
     split
     ·cases he:P0 e A.tab with
      | none=>rfl
      | some te=>
       simp only [Option.bind_some]
       cases te.k with
       | int kk=>cases kk <;> first | rfl | (simp only; cases a3s x st <;> rfl)
       | _=>rfl
     ·rfl
    | _=>rfl
   | _=>rfl
theorem ntr_builtinK (wr:Bool) (b:Builtin) (ts:List TypeId) (args:List AV) (st:Sto):Ntr fun R k=>a08 A wr b ts args st k:=by
 intro R k
 unfold a08
 split
 ·exact (ntr_lenK A _ _ st).ntr st R k
 ·exact ntr_two _ R k
 ·rename_i a b
  cases asI .i64 a with
  | none=>rfl
  | some x=>cases h:asI .i64 b <;> simp only [h] <;> rfl
 ·rename_i a b
  cases asI .i64 a with
  | none=>rfl
  | some x=>cases h:asI .i64 b <;> simp only [h] <;> rfl
 ·rfl
theorem doOp_ntr (wr:Bool) (ev:Operand→AV) (o:Oper) (st:Sto):Ntr fun R k=>a07 A C wr ev o st k:=by
 intro R k
 unfold a07
 cases o.op with
 | call c=>
  simp only
  cases hc:c.callee with
  | value f=>simp only; exact Ntr.bind _ (F:=fun (x:Out × Sto) R k=>k x.1 x.2) (fun x=>Ntr.k _ _) R k
  | invoke r m=>rfl
  | builtin b=>simp only; exact ntr_builtinK _ _ _ _ _ R k
 | move x=>rfl
 | assign x=>rfl
 | alloc t=>exact Ntr.bind _ (F:=fun (td:TD) R k=>if t = A.bld then k (.ret (.mp st.length 0 0)) (st ++ [.bld ByteArray.empty]) else k (.ret (.mp st.length 0 0)) (st ++ [.cells 0 td.zero 0])) (fun td=>Ntr.ite (Ntr.k _ _) (Ntr.k _ _)) R k
 | load t a=>exact Ntr.bind _ (F:=fun (td:TD) R k=>one (ld td.isAgg td.size st (ev a)) st k) (fun td=>ntr_one _ _) R k
 | store t a x=>exact Ntr.bind _ (F:=fun (td:TD) R k=>unit (sto td.size st (ev a) (ev x)) k) (fun td=>ntr_unit _) R k
 | box t x=>exact Ntr.ite (p:=(ev x).cells.all AV.isCell = true) (F:=fun R k=>k (.ret (.mp st.length 0 0)) (st ++ [.cells 0 (ev x).cells 0])) (G:=fun R k=>none) (Ntr.k _ _) Ntr.none R k
 | range t x=>
  simp only
  cases P0 t A.tab with
  | none=>rfl
  | some td=>
   simp only [Option.bind_some]
   cases td.k with
   | str=>cases asS (ev x) <;> rfl
   | _=>rfl
 | makeInterface t x=>
  simp only
  cases P0 t A.tab with
  | none=>rfl
  | some td=>
   simp only [Option.bind_some]
   cases td.k <;> rfl
 | makeFunc f a b=>
  simp only
  cases f <;> rfl
 | makeMap t r=>cases r <;> rfl
 | pick c a b=>exact (ntr_pickK _ _ _).ntr st R k
 | binOp op t x y z=>exact Ntr.bind _ (F:=fun (td:TD) R k=>binK td ((P0 t A.eqs).getD []) (R6 x || R6 y) op (ev x) (ev y) fun v=>k (.ret v) st) (fun td=>(ntr_binK _ _ _ _ _ _).ntr st) R k
 | unOp op t x=>exact Ntr.bind _ (F:=fun (td:TD) R k=>unK td op (ev x) fun v=>k (.ret v) st) (fun td=>(ntr_unK _ _ _).ntr st) R k
 | convert s d x=>exact ntr_convK _ _ _ _ _ R k
 | slice t x lo hi mx=>exact (a4C _ _ _ _ _ _ st).ntr st R k
 | index t x i=>exact (a4u _ _ _ _).ntr st R k
 | panic x=>
  simp only
  split <;> rfl
 | _=>first | exact ntr_one _ _ R k | exact ntr_two _ R k | exact ntr_unit _ R k | rfl
def opR (A:P2) (C:Call) (wr:Bool) (ev:Operand→AV) (o:Oper) (st:Sto):Option (Out × Sto):=a07 A C wr ev o st fun o s=>some (o,s)
theorem Y8 (wr:Bool) (ev:Operand→AV) (o:Oper) (st:Sto) {R:Type} (k:Out→Sto→Option R):a07 A C wr ev o st k = (opR A C wr ev o st).bind fun x=>k x.1 x.2:=doOp_ntr wr ev o st R k
def gvE (ops:Array Oper) (o:Oper) (env:List AV):Option (Bool × List AV):=match o.guard with
 | none=>some (true,env)
 | some (j,want)=>match (ops[j]?).bind (·.dst) with
  | none=>some (false,env)
  | some t=>match env[t]? with
   | some v=>(R3 v).bind fun g=>gOn g (some (false,env.set t (.tup []))) fun b=>bif b then (bif want then some (true,env.set t (.bool true)) else some (false,env.set t (.bool true)))
     else (bif want then some (false,env.set t (.bool false)) else some (true,env.set t (.bool false)))
   | none=>some (false,env)
theorem guardK_eq' {R:Type} (ops:Array Oper) (o:Oper) (env:List AV) (yes no:List AV→Option R):a0x ops o env yes no = (gvE ops o env).bind fun q=>bif q.1 then yes q.2 else no q.2:=by
 unfold a0x gvE
 cases o.guard with
 | none=>rfl
 | some p=>
  obtain ⟨j,want⟩:=p
  simp only
  cases (ops[j]?).bind (·.dst) with
  | none=>rfl
  | some t=>
   simp only
   cases he:env[t]? with
   | none=>rfl
   | some v=>
    simp only
    unfold R3
    split
    ·rename_i b
     simp only [Option.bind_some,gOn]
     cases b <;> cases want <;> rfl
    ·rfl
    ·rfl
theorem opR_congr {wr:Bool} {ev ev':Operand→AV} {o:Oper} (h:∀ x ∈ o.op.operands.toList,ev x = ev' x) (st:Sto):opR A C wr ev o st = opR A C wr ev' o st:=by
 unfold opR a07
 cases ho:o.op with
 | call c=>
  rw [ho] at h
  simp only [Op.operands,Call.operands] at h
  simp only
  cases hc:c.callee with
  | value f=>
   simp only [hc,Array.toList_append,List.mem_append] at h ⊢
   rw [h f (.inl (by simp)),List.map_congr_left fun x hx=>h x (.inr hx)]
  | invoke r m=>rfl
  | builtin b=>
   simp only [hc,Array.toList_append,List.mem_append] at h ⊢
   rw [List.map_congr_left fun x hx=>h x (.inr hx)]
 | build t ps=>
  rw [ho] at h
  simp only [Op.operands] at h
  simp only
  rw [List.map_congr_left (g:=fun x=>(x.1,ev' x.2)) fun x hx=>by rw [h x.2 (by simp; exact ⟨x.1,by simpa using hx⟩)]]
 | buildSlice t n ps=>
  rw [ho] at h
  simp only [Op.operands] at h
  simp only
  rw [List.map_congr_left (g:=fun x=>(x.1,ev' x.2)) fun x hx=>by rw [h x.2 (by simp; exact ⟨x.1,by simpa using hx⟩)]]
 | makeFunc f a b=>
  rw [ho] at h
  simp only [Op.operands,Array.toList_append,List.mem_append] at h
  simp only
  rw [List.map_congr_left fun x hx=>h x (.inl hx),List.map_congr_left fun x hx=>h x (.inr hx)]
 | slice t x lo hi mx=>
  rw [ho] at h
  simp only [Op.operands,Array.toList_append,List.mem_append] at h
  have h1:ev x = ev' x:=h x (by simp)
  have h2:lo.map ev = lo.map ev':=by cases lo with | none=>rfl | some y=>simp only [Option.map_some]; rw [h y (by simp)]
  have h3:hi.map ev = hi.map ev':=by cases hi with | none=>rfl | some y=>simp only [Option.map_some]; rw [h y (by simp)]
  have h4:mx.map ev = mx.map ev':=by cases mx with | none=>rfl | some y=>simp only [Option.map_some]; rw [h y (by simp)]
  simp only [h1,h2,h3,h4]
 | makeMap t r=>cases r <;> rfl
 | _=>first
  | rfl
  | (rw [ho] at h; simp only [Op.operands,List.mem_cons,List.not_mem_nil,or_false,forall_eq_or_imp,forall_eq] at h; simp only [h]; done)
  | (rw [ho] at h; simp only [Op.operands,List.mem_cons,List.not_mem_nil,or_false,forall_eq_or_imp,forall_eq] at h; obtain ⟨h1,h2⟩:=h; simp only [h1,h2]; done)
  | (rw [ho] at h; simp only [Op.operands,List.mem_cons,List.not_mem_nil,or_false,forall_eq_or_imp,forall_eq] at h; obtain ⟨h1,h2,h3⟩:=h; simp only [h1,h2,h3]; done)
theorem a0Y {F:(R:Type)→(AV→Option R)→Option R} (h:a2P F):∀ st,F (Out × Sto) (fun v=>some (.ret v,st)) = (F AV some).map fun v=>(Out.ret v,st):=by
 intro st
 rw [h]
 cases F AV some <;> rfl
theorem opR_pure {nt:a0o} {rid i:Nat} {o:Oper} (hk:kindOf nt rid i o = .pure) (ev:Operand→AV):∃ G:Option AV,∀ (C:Call) (st:Sto),opR A C (wrs nt rid i) ev o st = G.map fun v=>(Out.ret v,st):=by
 unfold opR a07
 cases ho:o.op with
 | move x=>exact ⟨some (ev x),fun _ _=>rfl⟩
 | assign x=>exact ⟨some (ev x),fun _ _=>rfl⟩
 | pick c a b=>exact ⟨_,fun C st=>a0Y (ntr_pickK (ev c) (ev a) (ev b)) st⟩
 | build t ps=>exact ⟨build A t (ps.toList.map fun x=>(x.1,ev x.2)),fun C st=>by simp only [one]; cases build A t (ps.toList.map fun x=>(x.1,ev x.2)) <;> rfl⟩
 | nilCheck x=>exact ⟨O2 (ev x),fun C st=>by simp only [one]; cases O2 (ev x) <;> rfl⟩
 | binOp op t x y z=>exact ⟨_,fun C st=>a0Y (a2P.bind (P0 t A.tab) (F:=fun (td:TD) R c=>binK td ((P0 t A.eqs).getD []) (R6 x || R6 y) op (ev x) (ev y) c) (fun td=>ntr_binK _ _ _ _ _ _)) st⟩
 | unOp op t x=>exact ⟨_,fun C st=>a0Y (a2P.bind (P0 t A.tab) (F:=fun (td:TD) R c=>unK td op (ev x) c) (fun td=>ntr_unK _ _ _)) st⟩
 | makeInterface t x=>
  cases ht:P0 t A.tab with
  | none=>exact ⟨none,fun C st=>by simp only [ht]; rfl⟩
  | some td=>
   cases hk2:td.k with
   | iface n=>exact ⟨none,fun C st=>by simp only [ht,Option.bind_some,hk2]; rfl⟩
   | _=>exact ⟨some (.ifc t (ev x)),fun C st=>by simp only [ht,Option.bind_some,hk2]; rfl⟩
 | makeFunc f a b=>
  cases f with
  | yield l=>exact ⟨none,fun C st=>rfl⟩
  | _=>exact ⟨some (.fn _ (a.toList.map ev) (b.toList.map ev)),fun C st=>rfl⟩
 | fieldAddr s x f=>exact ⟨fieldAddr A s (ev x) f,fun C st=>by simp only [one]; cases fieldAddr A s (ev x) f <;> rfl⟩
 | field s x f=>exact ⟨field A s (ev x) f,fun C st=>by simp only [one]; cases field A s (ev x) f <;> rfl⟩
 | indexAddr t x y=>exact ⟨indexAddr A t (ev x) (ev y),fun C st=>by simp only [one]; cases indexAddr A t (ev x) (ev y) <;> rfl⟩
 | index t x y=>exact ⟨_,fun C st=>a0Y (a4u A t (ev x) (ev y)) st⟩
 | typeAssert x t t2 ok=>exact ⟨a37 A (ev x) t2 ok,fun C st=>by simp only [one]; cases a37 A (ev x) t2 ok <;> rfl⟩
 | extract x n=>exact ⟨ext (ev x) n,fun C st=>by simp only [one]; cases ext (ev x) n <;> rfl⟩
 | buildSlice t n ps=>
  have hw:wrs nt rid i = false:=by
   unfold kindOf at hk
   simp only [ho] at hk
   cases hw:wrs nt rid i with
   | false=>rfl
   | true=>simp [hw] at hk
  refine ⟨(buildSlice A false t n (ps.toList.map fun x=>(x.1,ev x.2)) []).map (·.1),fun C st=>?_⟩
  simp only [hw,two,buildSlice]
  cases ht:P0 t A.tab with
  | none=>rfl
  | some td=>
   simp only [Option.bind_some]
   cases td.k with
   | slice e=>
    simp only
    cases he:P0 e A.tab with
    | none=>rfl
    | some te=>
     simp only [Option.bind_some]
     split
     ·unfold S8
      cases O9 (fun i=>some (i * te.size,te.size)) (a2k n te.zero) (ps.toList.map fun x=>(x.1,ev x.2)) <;> rfl
     ·rfl
   | _=>rfl
 | call c=>
  exfalso
  unfold kindOf at hk
  simp only [ho] at hk
  cases hc:c.callee with
  | builtin b=>simp only [hc] at hk; cases b <;> simp at hk
  | value f=>simp only [hc] at hk; split at hk <;> cases hk
  | invoke r m=>simp only [hc] at hk; split at hk <;> cases hk
 | convert s d x=>
  exfalso
  unfold kindOf at hk
  simp only [ho] at hk
  split at hk <;> cases hk
 | _=>(exfalso; unfold kindOf at hk; simp only [ho] at hk; cases hk)
theorem opR_look {nt:a0o} {rid i:Nat} {o:Oper} (hk:kindOf nt rid i o = .look) {ev:Operand→AV} {st:Sto} {out:Out} {st':Sto} (h:opR A C (wrs nt rid i) ev o st = some (out,st')):st' = st:=by
 unfold opR a07 at h
 cases ho:o.op with
 | load t a=>
  simp only [ho] at h
  obtain ⟨td,_,h⟩:=Option.bind_eq_some_iff.1 h
  obtain ⟨v,_,h⟩:=Option.bind_eq_some_iff.1 h
  cases h; rfl
 | lookup t m key ok=>
  simp only [ho] at h
  obtain ⟨v,_,h⟩:=Option.bind_eq_some_iff.1 h
  cases h; rfl
 | slice t x lo hi mx=>
  simp only [ho] at h
  have h2:=(a0Y (a4C A t (ev x) (lo.map ev) (hi.map ev) (mx.map ev) st) st).symm.trans h
  obtain ⟨v,_,h3⟩:=Option.map_eq_some_iff.1 h2
  cases h3; rfl
 | call c=>
  simp only [ho] at h
  unfold kindOf at hk
  simp only [ho] at hk
  cases hc:c.callee with
  | builtin b=>
   simp only [hc] at hk h
   unfold a08 at h
   split at h
   ·have h2:=(a0Y (ntr_lenK A _ _ st) st).symm.trans h
    obtain ⟨v,_,h3⟩:=Option.map_eq_some_iff.1 h2
    cases h3; rfl
   ·simp at hk
   ·obtain ⟨a,_,h⟩:=Option.bind_eq_some_iff.1 h
    obtain ⟨b,_,h⟩:=Option.bind_eq_some_iff.1 h
    cases h; rfl
   ·obtain ⟨a,_,h⟩:=Option.bind_eq_some_iff.1 h
    obtain ⟨b,_,h⟩:=Option.bind_eq_some_iff.1 h
    cases h; rfl
   ·cases h
  | value f=>simp only [hc] at hk; split at hk <;> cases hk
  | invoke r m=>simp only [hc] at hk; split at hk <;> cases hk
 | buildSlice t n ps=>
  exfalso
  unfold kindOf at hk
  simp only [ho] at hk
  split at hk <;> cases hk
 | convert s d x=>
  exfalso
  unfold kindOf at hk
  simp only [ho] at hk
  split at hk <;> cases hk
 | _=>(exfalso; unfold kindOf at hk; simp only [ho] at hk; cases hk)
end
end Go.St
namespace Go.St
set_option linter.unusedVariables false
set_option linter.unusedSimpArgs false
def isOn (l:Array Bool) (i:Nat):Prop:=l.getD i false = true
def accB (acc:Array Nat) (o:Oper):Nat:=o.after.foldl (fun s e=>if Region.binds .any e then s ||| 2 ^ e.on ||| acc.getD e.on 0 else s) 0
theorem accL_bit (acc:Array Nat) (k:Nat):∀ (es:List Edge) (s:Nat),(es.foldl (fun s e=>if Region.binds .any e then s ||| 2 ^ e.on ||| acc.getD e.on 0 else s) s).testBit k = true →
  s.testBit k = true∨∃ e ∈ es,Region.binds .any e = true∧(e.on = k∨(acc.getD e.on 0).testBit k = true):=by
 intro es
 induction es with
 | nil=>intro s h; exact .inl h
 | cons e r ih=>
  intro s h
  simp only [List.foldl_cons] at h
  rcases ih _ h with h | ⟨e',he',h⟩
  ·split at h
   ·rename_i hb
    simp only [Nat.testBit_or,Bool.or_eq_true,Nat.testBit_two_pow,decide_eq_true_eq] at h
    rcases h with (h | h) | h
    ·exact .inl h
    ·exact .inr ⟨e,by simp,hb, .inl h⟩
    ·exact .inr ⟨e,by simp,hb, .inr h⟩
   ·exact .inl h
  ·exact .inr ⟨e',by simp [he'],h⟩
def beforeL (acc:Array Nat):List Oper→Array Nat
 | []=>acc
 | o :: r=>beforeL (acc.push (accB acc o)) r
theorem before_eq (ops:Array Oper):Region.before ops = beforeL #[] ops.toList:=by
 unfold Region.before
 rw [←Array.foldl_toList]
 generalize (#[]:Array Nat) = acc
 induction ops.toList generalizing acc with
 | nil=>rfl
 | cons o r ih=>exact ih _
theorem a2z:∀ (l:List Oper) (acc:Array Nat) (i:Nat),i < acc.size→(beforeL acc l).getD i 0 = acc.getD i 0:=by
 intro l
 induction l with
 | nil=>intro acc i h; rfl
 | cons o r ih=>
  intro acc i h
  rw [beforeL,ih _ i (by simp; omega)]
  simp [Array.getD,h,Nat.lt_succ_of_lt h,Array.getElem_push_lt]
theorem beforeL_at:∀ (l:List Oper) (acc:Array Nat) (j:Nat) (o:Oper),l[j]? = some o→∃ acc',acc'.size = acc.size + j∧(beforeL acc l).getD (acc.size + j) 0 = accB acc' o∧∀ i,i < acc.size + j→acc'.getD i 0 = (beforeL acc l).getD i 0:=by
 intro l
 induction l with
 | nil=>intro acc j o h; simp at h
 | cons x r ih=>
  intro acc j o h
  cases j with
  | zero=>
   simp only [List.getElem?_cons_zero,Option.some.injEq] at h
   subst h
   refine ⟨acc,rfl,?_,fun i hi=>?_⟩
   ·rw [beforeL,Nat.add_zero,a2z _ _ _ (by simp)]
    simp [Array.getD]
   ·rw [beforeL,a2z _ _ _ (by simp; omega)]
    simp [Array.getD,Nat.add_zero] at hi ⊢
    simp [hi,Nat.lt_succ_of_lt hi,Array.getElem_push_lt]
  | succ j=>
   obtain ⟨acc',h1,h2,h3⟩:=ih (acc.push (accB acc x)) j o (by simpa using h)
   simp only [Array.size_push] at h1 h2 h3
   refine ⟨acc',by omega,?_,fun i hi=>?_⟩
   ·rw [beforeL,show acc.size + (j + 1) = acc.size + 1 + j by omega]; exact h2
   ·rw [beforeL]; exact h3 i (by omega)
theorem a4z {ops:Array Oper} {i k:Nat} {o:Oper} (ho:ops[i]? = some o) (he:a0a ops = true) (h:((Region.before ops).getD i 0).testBit k = true) :
  ∃ e ∈ o.after.toList,Region.binds .any e = true∧e.on < i∧(e.on = k∨((Region.before ops).getD e.on 0).testBit k = true):=by
 rw [before_eq] at h ⊢
 have hi:i < ops.size:=(Array.getElem?_eq_some_iff.1 ho).1
 obtain ⟨acc',h1,h2,h3⟩:=beforeL_at ops.toList #[] i o (by simpa using ho)
 simp only [List.size_toArray,List.length_nil,Nat.zero_add] at h1 h2 h3
 rw [h2] at h
 unfold accB at h
 rw [←Array.foldl_toList] at h
 rcases accL_bit acc' k _ 0 h with h | ⟨e,hm,hb,h⟩
 ·simp at h
 ·have hlt:e.on < i:=by
   unfold a0a at he
   rw [List.all_eq_true] at he
   have:=he i (by simpa using hi)
   simp only [ho,Array.all_eq_true_iff_forall_mem] at this
   have:=this e (by simpa using hm)
   simpa [hb] using this
  refine ⟨e,hm,hb,hlt,h.imp_right fun h=>?_⟩
  rwa [h3 _ hlt] at h
def Closed (ops:Array Oper) (l:Array Bool):Prop:=∀ i o,ops[i]? = some o→isOn l i→∀ e ∈ o.after.toList,Region.binds .any e = true→isOn l e.on
theorem Closed.before {ops:Array Oper} {l:Array Bool} (hc:Closed ops l) (he:a0a ops = true):∀ (i:Nat),i < ops.size→isOn l i→∀ k,((Region.before ops).getD i 0).testBit k = true→isOn l k:=by
 intro i
 induction i using Nat.strongRecOn with
 | ind i ih=>
  intro hi hl k h
  obtain ⟨e,hm,hb,hlt,h⟩:=a4z (Array.getElem?_eq_getElem hi) he h
  have hon:=hc i _ (Array.getElem?_eq_getElem hi) hl e hm hb
  rcases h with rfl | h
  ·exact hon
  ·exact ih e.on hlt (by omega) hon k h
theorem ready_iff {ops:Array Oper} {l:Array Bool} {i:Nat}:i ∈ Region.ready .any ops l ↔ i < ops.size∧l.getD i true = false∧∃ o,ops[i]? = some o∧∀ e ∈ o.after.toList,Region.binds .any e = true→isOn l e.on:=by
 unfold Region.ready
 simp only [List.mem_filter,List.mem_range,Bool.and_eq_true,Bool.not_eq_true']
 constructor
 ·rintro ⟨h1,h2,h3⟩
  refine ⟨h1,h2,ops[i],Array.getElem?_eq_getElem h1,fun e hm hb=>?_⟩
  simp only [Array.getElem?_eq_getElem h1,Option.map_some,Option.getD_some,Array.all_eq_true_iff_forall_mem] at h3
  have:=h3 e (by simpa using hm)
  simp only [hb,Bool.not_true,Bool.false_or] at this
  exact this
 ·rintro ⟨h1,h2,o,ho,h⟩
  refine ⟨h1,h2,?_⟩
  simp only [ho,Option.map_some,Option.getD_some,Array.all_eq_true_iff_forall_mem]
  intro e hm
  cases hb:Region.binds .any e with
  | false=>simp
  | true=>
   simp only [Bool.not_true,Bool.false_or]
   exact h e (by simpa using hm) hb
theorem ready_nil {ops:Array Oper} {l:Array Bool} (he:a0a ops = true) (hsz:l.size = ops.size) (h:Region.ready .any ops l = []):∀ i,i < ops.size→isOn l i:=by
 intro i
 induction i using Nat.strongRecOn with
 | ind i ih=>
  intro hi
  by_cases hl:isOn l i
  ·exact hl
  ·exfalso
   have hm:i ∈ Region.ready .any ops l:=by
    refine ready_iff.2 ⟨hi,?_,ops[i],Array.getElem?_eq_getElem hi,fun e hm hb=>?_⟩
    ·unfold isOn at hl
     have:i < l.size:=by omega
     simp [Array.getD,this] at hl ⊢
     exact hl
    ·unfold a0a at he
     rw [List.all_eq_true] at he
     have:=he i (by simpa using hi)
     simp only [Array.getElem?_eq_getElem hi,Array.all_eq_true_iff_forall_mem] at this
     have:=this e (by simpa using hm)
     have hlt:e.on < i:=by simpa [hb] using this
     exact ih e.on hlt (by omega)
   rw [h] at hm
   cases hm
theorem a3z {ops:Array Oper} {b:Array Nat} (h:a1m ops b = true) {i j:Nat} {oi oj:Oper} {t:Tmp} (hi:ops[i]? = some oi) (hd:oi.dst = some t) (hj:ops[j]? = some oj) (ht:t ∈ slotsOf ops oj) (hne:i ≠ j) :
  (b.getD (max i j) 0).testBit (min i j) = true:=by
 unfold a1m at h
 rw [List.all_eq_true] at h
 have h1:=h i (by simpa using (Array.getElem?_eq_some_iff.1 hi).1)
 simp only [hi,Option.bind_some,hd] at h1
 rw [List.all_eq_true] at h1
 have h2:=h1 j (by simpa using (Array.getElem?_eq_some_iff.1 hj).1)
 simp only [hj,Bool.or_eq_true,beq_iff_eq,hne,false_or,Bool.not_eq_true'] at h2
 rcases h2 with h2 | h2
 ·have:(slotsOf ops oj).contains t = true:=by simpa using ht
  rw [this] at h2; cases h2
 ·exact h2
def gv (ops:Array Oper) (o:Oper) (env:List AV):Option Bool:=match o.guard with
 | none=>some true
 | some (j,want)=>match (ops[j]?).bind (·.dst) with
  | none=>some false
  | some t=>match env[t]? with
   | some v=>(R3 v).bind fun g=>match g with
    | none=>some false
    | some b=>some (b == want)
   | none=>some false
theorem R1 {α:Type} {l:List α} {t:Nat} {a:α} (h:l[t]? = some a):l.set t a = l:=by
 apply List.ext_getElem?
 intro i
 by_cases hi:t = i
 ·subst hi
  rw [List.getElem?_set_self (List.getElem?_eq_some_iff.1 h).1,h]
 ·rw [List.getElem?_set_ne hi]
theorem guardK_eq {R:Type} (ops:Array Oper) (o:Oper) (env:List AV) (yes no:List AV→Option R):a0x ops o env yes no = (gv ops o env).bind fun q=>bif q then yes env else no env:=by
 unfold a0x gv
 cases o.guard with
 | none=>rfl
 | some p=>
  obtain ⟨j,want⟩:=p
  simp only
  cases (ops[j]?).bind (·.dst) with
  | none=>rfl
  | some t=>
   simp only
   cases he:env[t]? with
   | none=>rfl
   | some v=>
    simp only
    unfold R3
    split
    ·rename_i b
     simp only [Option.bind_some,gOn]
     cases b <;> cases want <;> simp only [cond_true,cond_false,R1 he] <;> rfl
    ·simp only [Option.bind_some,gOn,R1 he]; rfl
    ·rfl
theorem gv_congr {ops:Array Oper} {o:Oper} {env env':List AV} (h:∀ t ∈ slotsOf ops o,env[t]? = env'[t]?):gv ops o env = gv ops o env':=by
 unfold gv
 cases hg:o.guard with
 | none=>rfl
 | some p=>
  obtain ⟨j,want⟩:=p
  simp only
  cases hd:(ops[j]?).bind (·.dst) with
  | none=>rfl
  | some t=>
   simp only
   rw [h t (by unfold slotsOf; simp [hg,hd])]
theorem evA_congr {A:P2} {ops:Array Oper} {o:Oper} {env env':List AV} (h:∀ t ∈ slotsOf ops o,env[t]? = env'[t]?):∀ x ∈ o.op.operands.toList,evA A env x = evA A env' x:=by
 intro x hx
 cases x with
 | tmp t=>
  simp only [evA,List.getD_eq_getElem?_getD]
  rw [h t]
  unfold slotsOf
  simp only [List.mem_append,List.mem_filterMap]
  exact .inr (.inr ⟨.tmp t,hx,rfl⟩)
 | _=>rfl
end Go.St
namespace Go.St
set_option linter.unusedVariables false
set_option linter.unusedSimpArgs false
section
variable {A:P2} {C:Call} {nt:a0o} {rid:Nat} {ops:Array Oper} {b:Array Nat} {R:Type}
open Classical in
theorem a4I {w:Bool} {env:List AV} {o:Oper} {out:Out} {k:Option R} {r:R}:∀ {l:List Sto},alike A C w env o out k l = some r→k = some r∧∀ s ∈ l,opR A C w (evA A env) o s = some (out,s):=by
 intro l
 induction l with
 | nil=>intro h; exact ⟨h,by simp⟩
 | cons s l ih=>
  intro h
  simp only [alike,Y8] at h
  obtain ⟨x,hx,h⟩:=Option.bind_eq_some_iff.1 h
  split at h
  ·rename_i he
   obtain ⟨h1,h2⟩:=ih h
   refine ⟨h1,fun s' hs'=>?_⟩
   rcases List.mem_cons.1 hs' with rfl | hs'
   ·rw [hx,←he]
   ·exact h2 s' hs'
  ·cases h
open Classical in
theorem again_some {st:Sto} {k:Option R} {r:R}:∀ {l:List Rd},again A C nt rid st k l = some r→k = some r∧∀ x ∈ l,opR A C (wrs nt rid x.i) (evA A x.env) x.o st = some (x.out,st):=by
 intro l
 induction l with
 | nil=>intro h; exact ⟨h,by simp⟩
 | cons s l ih=>
  intro h
  simp only [again,Y8] at h
  obtain ⟨x,hx,h⟩:=Option.bind_eq_some_iff.1 h
  split at h
  ·rename_i he
   obtain ⟨h1,h2⟩:=ih h
   refine ⟨h1,fun s' hs'=>?_⟩
   rcases List.mem_cons.1 hs' with rfl | hs'
   ·rw [hx,←he]
   ·exact h2 s' hs'
  ·cases h
structure Stp (A:P2) (C:Call) (nt:a0o) (rid:Nat) (ops:Array Oper) (b:Array Nat) (i:Nat) (o:Oper) (d d':DS) (v:AV) (act:Bool):Prop where
 env:d'.env = put d.env o.dst v
 kind:(gv ops o d.env = some false∧v = .tup []∧act = false∧d'.st = d.st∧d'.old = d.old∧d'.acts = d.acts∧d'.reads = d.reads) ∨
  (gv ops o d.env = some true∧kindOf nt rid i o = .pure∧act = false∧opR A C (wrs nt rid i) (evA A d.env) o d.st = some (.ret v,d.st)∧d'.st = d.st∧d'.old = d.old∧d'.acts = d.acts∧d'.reads = d.reads) ∨
  (gv ops o d.env = some true∧act = false∧opR A C (wrs nt rid i) (evA A d.env) o d.st = some (.ret v,d.st)∧(∀ s ∈ d.old.take (a21 b i d.acts),opR A C (wrs nt rid i) (evA A d.env) o s = some (.ret v,s)) ∧
   d'.st = d.st∧d'.old = d.old∧d'.acts = d.acts∧d'.reads = ⟨i,d.env,o, .ret v⟩ :: d.reads) ∨
  (gv ops o d.env = some true∧act = true∧a21 b i d.acts = 0∧opR A C (wrs nt rid i) (evA A d.env) o d.st = some (.ret v,d'.st) ∧
   (∀ x ∈ d.reads,(b.getD i 0).testBit x.i = false→opR A C (wrs nt rid x.i) (evA A x.env) x.o d'.st = some (x.out,d'.st)) ∧
   d'.old = d.st :: d.old∧d'.acts = i :: d.acts∧d'.reads = d.reads)
open Classical in
theorem drawOp_some {o:Oper} {i:Nat} {d:DS} {k:DS→Option R} {r:R} (h:a3S A C nt rid ops b o i d k = some r):∃ d' v act,k d' = some r∧Stp A C nt rid ops b i o d d' v act:=by
 unfold a3S at h
 rw [guardK_eq] at h
 obtain ⟨q,hq,h⟩:=Option.bind_eq_some_iff.1 h
 cases q with
 | false=>
  simp only [cond_false] at h
  exact ⟨_,_,false,h,rfl, .inl ⟨hq,rfl,rfl,rfl,rfl,rfl,rfl⟩⟩
 | true=>
  simp only [cond_true] at h
  cases hk:kindOf nt rid i o with
  | pure=>
   simp only [hk,Y8] at h
   obtain ⟨⟨out,s⟩,hx,h⟩:=Option.bind_eq_some_iff.1 h
   obtain ⟨G,hG⟩:=opR_pure (A:=A) hk (evA A d.env)
   rw [hG C d.st] at hx
   obtain ⟨v,hv,hx2⟩:=Option.map_eq_some_iff.1 hx
   cases hx2
   simp only [Out.on] at h
   exact ⟨_,v,false,h,rfl, .inr (.inl ⟨hq,hk,rfl,by rw [hG C d.st,hv]; rfl,rfl,rfl,rfl,rfl⟩)⟩
  | look=>
   simp only [hk,Y8] at h
   obtain ⟨⟨out,s⟩,hx,h⟩:=Option.bind_eq_some_iff.1 h
   obtain rfl:=opR_look hk hx
   cases out with
   | ret v=>
    simp only [Out.on] at h
    obtain ⟨h1,h2⟩:=a4I h
    exact ⟨_,v,false,h1,rfl, .inr (.inr (.inl ⟨hq,rfl,hx,h2,rfl,rfl,rfl,rfl⟩))⟩
   | pan v=>simp only [Out.on] at h; cases h
  | read=>
   simp only [hk,Y8] at h
   obtain ⟨⟨out,s⟩,hx,h⟩:=Option.bind_eq_some_iff.1 h
   cases out with
   | ret v=>
    simp only [Out.on] at h
    split at h
    ·rename_i hs
     subst hs
     obtain ⟨h1,h2⟩:=a4I h
     exact ⟨_,v,false,h1,rfl, .inr (.inr (.inl ⟨hq,rfl,hx,h2,rfl,rfl,rfl,rfl⟩))⟩
    ·cases h
   | pan v=>simp only [Out.on] at h; cases h
  | act=>
   simp only [hk] at h
   cases hl:a21 b i d.acts == 0 with
   | false=>simp only [hl,cond_false] at h; cases h
   | true=>
    simp only [hl,cond_true,Y8] at h
    obtain ⟨⟨out,s⟩,hx,h⟩:=Option.bind_eq_some_iff.1 h
    cases out with
    | ret v=>
     simp only [Out.on] at h
     obtain ⟨h1,h2⟩:=again_some h
     refine ⟨_,v,true,h1,rfl, .inr (.inr (.inr ⟨hq,rfl,by simpa using hl,hx,fun x hxm hb=>h2 x ?_,rfl,rfl,rfl⟩))⟩
     simp only [List.mem_filter,hxm,hb,Bool.not_false,and_self]
    | pan v=>simp only [Out.on] at h; cases h
theorem drawOps_some {k:DS→Option R} {r:R}:∀ (l:List Oper) (i:Nat) (d:DS),a0F A C nt rid ops b k l i d = some r →
  ∃ (D:Nat→DS) (V:Nat→AV) (X:Nat→Bool),D i = d∧k (D (i + l.length)) = some r∧∀ j o,l[j]? = some o→Stp A C nt rid ops b (i + j) o (D (i + j)) (D (i + j + 1)) (V (i + j)) (X (i + j)):=by
 intro l
 induction l with
 | nil=>intro i d h; exact ⟨fun _=>d,fun _ => .any,fun _=>false,rfl,h,fun j o hj=>by simp at hj⟩
 | cons o l ih=>
  intro i d h
  simp only [a0F] at h
  obtain ⟨d',v,act,h1,hs⟩:=drawOp_some h
  obtain ⟨D,V,X,h2,h3,h4⟩:=ih (i + 1) d' h1
  refine ⟨fun j=>if j = i then d else D j,fun j=>if j = i then v else V j,fun j=>if j = i then act else X j,by simp,?_,fun j o' hj=>?_⟩
  ·have:¬ i + (o :: l).length = i:=by simp
   simp only [this,if_false]
   rw [show i + (o :: l).length = i + 1 + l.length by simp; omega]
   exact h3
  ·cases j with
   | zero=>
    simp only [List.getElem?_cons_zero,Option.some.injEq] at hj
    subst hj
    simp only [Nat.add_zero,if_true]
    have:¬ i + 1 = i:=by omega
    simp only [this,if_false,h2]
    exact hs
   | succ j=>
    have e1:¬ i + (j + 1) = i:=by omega
    have e2:¬ i + (j + 1) + 1 = i:=by omega
    simp only [e1,e2,if_false]
    have:=h4 j o' (by simpa using hj)
    rw [show i + (j + 1) = i + 1 + j by omega]
    exact this
end
structure Trc (A:P2) (C:Call) (nt:a0o) (rid:Nat) (ops:Array Oper) (D:Nat→DS) (V:Nat→AV) (X:Nat→Bool):Prop where
 stp:∀ j o,ops[j]? = some o→Stp A C nt rid ops (Region.before ops) j o (D j) (D (j + 1)) (V j) (X j)
 old0:(D 0).old = []
 acts0:(D 0).acts = []
 reads0:(D 0).reads = []
 edges:a0a ops = true
 slots:a1m ops (Region.before ops) = true
section
variable {A:P2} {C:Call} {nt:a0o} {rid:Nat} {ops:Array Oper} {D:Nat→DS} {V:Nat→AV} {X:Nat→Bool}
def a1s (ops:Array Oper) (i:Nat):Option Tmp:=(ops[i]?).bind (·.dst)
def V6 (ops:Array Oper) (V:Nat→AV) (e:List AV) (l:Nat→Bool):Nat→List AV
 | 0=>e
 | n + 1=>if l n then put (V6 ops V e l n) (a1s ops n) (V n) else V6 ops V e l n
theorem put_get {env:List AV} {dst:Option Tmp} {v:AV} {t:Nat} (h:dst ≠ some t):(put env dst v)[t]? = env[t]?:=by
 cases dst with
 | none=>rfl
 | some d=>simp only [put]; rw [List.getElem?_set_ne (by rintro rfl; exact h rfl)]
theorem put_comm {env:List AV} {d d':Option Tmp} {v v':AV} (h:∀ t,d = some t→d' ≠ some t):put (put env d v) d' v' = put (put env d' v') d v:=by
 cases d with
 | none=>rfl
 | some a=>
  cases d' with
  | none=>rfl
  | some a'=>
   have:a ≠ a':=fun e=>h a rfl (by rw [e])
   simp only [put]
   exact List.set_comm _ _ this
theorem envOf_len {e:List AV} {l:Nat→Bool}:∀ n,(V6 ops V e l n).length = e.length:=by
 intro n
 induction n with
 | zero=>rfl
 | succ n ih=>
  simp only [V6]
  split
  ·rw [←ih]; cases a1s ops n <;> simp [put]
  ·exact ih
theorem envOf_at {e:List AV} {t:Nat} {l l':Nat→Bool}:∀ n,(∀ i,i < n→a1s ops i = some t→l i = l' i)→(V6 ops V e l n)[t]? = (V6 ops V e l' n)[t]?:=by
 intro n
 induction n with
 | zero=>intro _; rfl
 | succ n ih=>
  intro h
  have ih:=ih fun i hi=>h i (by omega)
  simp only [V6]
  by_cases hd:a1s ops n = some t
  ·have hl:=h n (by omega) hd
   rw [hl]
   split
   ·have hlen:=fun l=>envOf_len (ops:=ops) (V:=V) (e:=e) (l:=l) n
    rw [hd]
    simp only [put]
    by_cases ht:t < e.length
    ·rw [List.getElem?_set_self (by rw [hlen]; exact ht),List.getElem?_set_self (by rw [hlen]; exact ht)]
    ·rw [List.getElem?_eq_none (by rw [List.length_set,hlen]; omega),List.getElem?_eq_none (by rw [List.length_set,hlen]; omega)]
   ·exact ih
  ·have e1:(if l n = true then put (V6 ops V e l n) (a1s ops n) (V n) else V6 ops V e l n)[t]? = (V6 ops V e l n)[t]?:=by
    split
    ·exact put_get hd
    ·rfl
   have e2:(if l' n = true then put (V6 ops V e l' n) (a1s ops n) (V n) else V6 ops V e l' n)[t]? = (V6 ops V e l' n)[t]?:=by
    split
    ·exact put_get hd
    ·rfl
   rw [e1,e2]
   exact ih
theorem envOf_add {e:List AV} {l:Nat→Bool} {j:Nat} (hj:l j = false):∀ n,j < n→(∀ i,j < i→i < n→l i = true→∀ t,a1s ops j = some t→a1s ops i ≠ some t) →
  V6 ops V e (fun i=>if i = j then true else l i) n = put (V6 ops V e l n) (a1s ops j) (V j):=by
 intro n
 induction n with
 | zero=>intro h; omega
 | succ n ih=>
  intro hn h
  by_cases hnj:n = j
  ·subst hnj
   have hlow:∀ m,m ≤ n→V6 ops V e (fun i=>if i = n then true else l i) m = V6 ops V e l m:=by
    intro m
    induction m with
    | zero=>intro _; rfl
    | succ m ihm=>
     intro hm
     have:¬ m = n:=by omega
     simp only [V6,this,if_false,ihm (by omega)]
   simp only [V6,if_true,hj,hlow n (Nat.le_refl _)]
   simp
  ·have ih:=ih (by omega) fun i hi hin=>h i hi (by omega)
   simp only [V6,hnj,if_false,ih]
   split
   ·rename_i hl
    exact put_comm (h n (by omega) (by omega) hl)
   ·rfl
theorem Trc.env_eq (T:Trc A C nt rid ops D V X):∀ n,n ≤ ops.size→(D n).env = V6 ops V (D 0).env (fun _=>true) n:=by
 intro n
 induction n with
 | zero=>intro _; rfl
 | succ n ih=>
  intro h
  have hs:=T.stp n _ (Array.getElem?_eq_getElem (show n < ops.size by omega))
  rw [hs.env,ih (by omega)]
  simp only [V6,if_true,a1s,Array.getElem?_eq_getElem (show n < ops.size by omega),Option.bind_some]
theorem Trc.st_same (T:Trc A C nt rid ops D V X) {i:Nat}:∀ j,i ≤ j→j ≤ ops.size→(∀ a,i ≤ a→a < j→X a = false)→(D j).st = (D i).st:=by
 intro j
 induction j with
 | zero=>intro h _ _; rw [show i = 0 by omega]
 | succ j ih=>
  intro h hj hx
  by_cases he:i = j + 1
  ·rw [he]
  ·have hs:=T.stp j _ (Array.getElem?_eq_getElem (show j < ops.size by omega))
   have hX:=hx j (by omega) (by omega)
   have:(D (j + 1)).st = (D j).st:=by
    rcases hs.kind with h | h | h | h
    ·exact h.2.2.2.1
    ·exact h.2.2.2.2.1
    ·exact h.2.2.2.2.1
    ·rw [h.2.1] at hX; cases hX
   rw [this]
   exact ih (by omega) (by omega) fun a ha ha'=>hx a ha (by omega)
theorem Trc.acts_mem (T:Trc A C nt rid ops D V X):∀ j,j ≤ ops.size→∀ a,a ∈ (D j).acts ↔ a < j∧X a = true:=by
 intro j
 induction j with
 | zero=>intro _ a; rw [T.acts0]; simp
 | succ j ih=>
  intro h a
  have hs:=T.stp j _ (Array.getElem?_eq_getElem (show j < ops.size by omega))
  have ih:=ih (by omega) a
  rcases hs.kind with h | h | h | h
  ·rw [h.2.2.2.2.2.1,ih]
   have hX:=h.2.2.1
   constructor
   ·rintro ⟨h1,h2⟩; exact ⟨by omega,h2⟩
   ·rintro ⟨h1,h2⟩
    refine ⟨?_,h2⟩
    rcases Nat.lt_succ_iff_lt_or_eq.1 h1 with h3 | rfl
    ·exact h3
    ·rw [hX] at h2; cases h2
  ·rw [h.2.2.2.2.2.2.1,ih]
   have hX:=h.2.2.1
   constructor
   ·rintro ⟨h1,h2⟩; exact ⟨by omega,h2⟩
   ·rintro ⟨h1,h2⟩
    refine ⟨?_,h2⟩
    rcases Nat.lt_succ_iff_lt_or_eq.1 h1 with h3 | rfl
    ·exact h3
    ·rw [hX] at h2; cases h2
  ·rw [h.2.2.2.2.2.2.1,ih]
   have hX:=h.2.1
   constructor
   ·rintro ⟨h1,h2⟩; exact ⟨by omega,h2⟩
   ·rintro ⟨h1,h2⟩
    refine ⟨?_,h2⟩
    rcases Nat.lt_succ_iff_lt_or_eq.1 h1 with h3 | rfl
    ·exact h3
    ·rw [hX] at h2; cases h2
  ·rw [h.2.2.2.2.2.2.1,List.mem_cons,ih]
   have hX:=h.2.1
   constructor
   ·rintro (rfl | ⟨h1,h2⟩)
    ·exact ⟨by omega,hX⟩
    ·exact ⟨by omega,h2⟩
   ·rintro ⟨h1,h2⟩
    rcases Nat.lt_succ_iff_lt_or_eq.1 h1 with h3 | rfl
    ·exact .inr ⟨h3,h2⟩
    ·exact .inl rfl
theorem Trc.chain (T:Trc A C nt rid ops D V X) {a j:Nat} (hj:j < ops.size) (hX:X j = true) (ha:a < j) (hXa:X a = true):((Region.before ops).getD j 0).testBit a = true:=by
 have hs:=T.stp j _ (Array.getElem?_eq_getElem hj)
 rcases hs.kind with h | h | h | h
 ·rw [h.2.2.1] at hX; cases hX
 ·rw [h.2.2.1] at hX; cases hX
 ·rw [h.2.1] at hX; cases hX
 ·have hl:=h.2.2.1
  unfold a21 at hl
  have hm:=(T.acts_mem j (Nat.le_of_lt hj) a).2 ⟨ha,hXa⟩
  cases hb:((Region.before ops).getD j 0).testBit a with
  | true=>rfl
  | false=>
   have:a ∈ (D j).acts.filter fun a=>!((Region.before ops).getD j 0).testBit a:=List.mem_filter.2 ⟨hm,by rw [hb]; rfl⟩
   rw [List.eq_nil_of_length_eq_zero hl] at this
   cases this
theorem Trc.old_at (T:Trc A C nt rid ops D V X) {c:Nat}:∀ j,c ≤ j→j ≤ ops.size→(∃ a,c ≤ a∧a < j∧X a = true)→∃ q,(D j).old[q]? = some (D c).st∧q + 1 ≤ ((D j).acts.filter fun a=>decide (c ≤ a)).length:=by
 intro j
 induction j with
 | zero=>rintro h _ ⟨a,h1,h2,_⟩; omega
 | succ j ih=>
  rintro hcj hj ⟨a,h1,h2,h3⟩
  have hs:=T.stp j _ (Array.getElem?_eq_getElem (show j < ops.size by omega))
  have same:(D (j + 1)).old = (D j).old→(D (j + 1)).acts = (D j).acts→X j = false→∃ q,(D (j + 1)).old[q]? = some (D c).st∧q + 1 ≤ ((D (j + 1)).acts.filter fun a=>decide (c ≤ a)).length:=by
   intro e1 e2 e3
   rw [e1,e2]
   have:a ≠ j:=by rintro rfl; rw [e3] at h3; cases h3
   exact ih (by omega) (by omega) ⟨a,h1,by omega,h3⟩
  rcases hs.kind with h | h | h | h
  ·exact same h.2.2.2.2.1 h.2.2.2.2.2.1 h.2.2.1
  ·exact same h.2.2.2.2.2.1 h.2.2.2.2.2.2.1 h.2.2.1
  ·exact same h.2.2.2.2.2.1 h.2.2.2.2.2.2.1 h.2.1
  ·obtain ⟨_,hX,_,_,_,e1,e2,_⟩:=h
   rw [e1,e2]
   have hc:c ≤ j:=by omega
   by_cases hex:∃ a,c ≤ a∧a < j∧X a = true
   ·obtain ⟨q,hq,hl⟩:=ih hc (by omega) hex
    refine ⟨q + 1,by simpa using hq,?_⟩
    simp only [List.filter_cons,hc,decide_true,if_true,List.length_cons]
    omega
   ·refine ⟨0,?_,?_⟩
    ·simp only [List.getElem?_cons_zero]
     rw [T.st_same (i:=c) j hc (by omega) fun a ha ha'=>by
      cases hX:X a with
      | false=>rfl
      | true=>exact absurd ⟨a,ha,ha',hX⟩ hex]
    ·simp only [List.filter_cons,hc,decide_true,if_true,List.length_cons]
     omega
theorem Trc.reads_mem (T:Trc A C nt rid ops D V X) {i:Nat} {x:Rd}:∀ j,i ≤ j→j ≤ ops.size→x ∈ (D i).reads→x ∈ (D j).reads:=by
 intro j
 induction j with
 | zero=>intro h _ hx; rwa [show i = 0 by omega] at hx
 | succ j ih=>
  intro h hj hx
  by_cases he:i = j + 1
  ·rwa [he] at hx
  ·have hs:=T.stp j _ (Array.getElem?_eq_getElem (show j < ops.size by omega))
   have:=ih (by omega) (by omega) hx
   rcases hs.kind with h | h | h | h
   ·rw [h.2.2.2.2.2.2]; exact this
   ·rw [h.2.2.2.2.2.2.2]; exact this
   ·rw [h.2.2.2.2.2.2.2]; exact List.mem_cons_of_mem _ this
   ·rw [h.2.2.2.2.2.2.2]; exact this
end
end Go.St
namespace Go.St
open Go.RowKit
set_option linter.unusedVariables false
set_option linter.unusedSimpArgs false
section
variable {A:P2} {C:Call} {nt:a0o} {rid:Nat} {ops:Array Oper} {D:Nat→DS} {V:Nat→AV} {X:Nat→Bool}
structure Inv (ops:Array Oper) (D:Nat→DS) (V:Nat→AV) (X:Nat→Bool) (l:Array Bool) (env:List AV) (st:Sto):Prop where
 size:l.size = ops.size
 closed:Closed ops l
 env:env = V6 ops V (D 0).env (fun i=>l.getD i false) ops.size
 cut:∃ c,c ≤ ops.size∧(∀ a,a < ops.size→X a = true→(l.getD a false = true ↔ a < c))∧st = (D c).st
theorem envOf_cut {e:List AV} {j:Nat}:∀ n,V6 ops V e (fun i=>decide (i < j)) n = V6 ops V e (fun _=>true) (min n j):=by
 intro n
 induction n with
 | zero=>simp [V6]
 | succ n ih=>
  simp only [V6,ih]
  by_cases h:n < j
  ·rw [show min (n + 1) j = n + 1 by omega,show min n j = n by omega]
   simp [V6,h]
  ·rw [show min (n + 1) j = min n j by omega]
   simp [h]
theorem last_act {j c:Nat} (h:∃ a,j ≤ a∧a < c∧X a = true):∃ a,j ≤ a∧a < c∧X a = true∧∀ a',a < a'→a' < c→X a' = false:=by
 induction c with
 | zero=>obtain ⟨a,_,h,_⟩:=h; omega
 | succ c ih=>
  obtain ⟨a,h1,h2,h3⟩:=h
  by_cases hc:X c = true
  ·exact ⟨c,by omega,by omega,hc,fun a' h4 h5=>by omega⟩
  ·have:a ≠ c:=by rintro rfl; exact hc h3
   obtain ⟨a2,k1,k2,k3,k4⟩:=ih ⟨a,h1,by omega,h3⟩
   refine ⟨a2,k1,by omega,k3,fun a' h4 h5=>?_⟩
   by_cases he:a' = c
   ·subst he; simpa using hc
   ·exact k4 a' h4 (by omega)
theorem a1I (l:Array Bool) (j i:Nat) (hj:j < l.size):(l.setIfInBounds j true).getD i false = if i = j then true else l.getD i false:=by
 simp only [Array.getD_eq_getD_getElem?,Array.getElem?_setIfInBounds]
 by_cases h:j = i
 ·subst h; simp [hj]
 ·have:¬ i = j:=fun e=>h e.symm
  simp [h,this]
theorem mem_len {α:Type} {l:List α} {q n:Nat} {a:α} (h:l[q]? = some a) (hq:q < n):a ∈ l.take n:=by
 have:(l.take n)[q]? = some a:=by rw [List.getElem?_take,if_pos hq]; exact h
 exact List.mem_of_getElem? this
set_option maxHeartbeats 1000000 in
theorem inv_step (T:Trc A C nt rid ops D V X) {l:Array Bool} {env:List AV} {st:Sto} (hI:Inv ops D V X l env st) {j:Nat} (hr:j ∈ Region.ready .any ops l):∃ o,ops[j]? = some o∧j < ops.size∧l.getD j false = false ∧
  ((gv ops o env = some false∧Inv ops D V X (l.setIfInBounds j true) (put env o.dst (.tup [])) st) ∨
  (gv ops o env = some true∧∃ st',opR A C (wrs nt rid j) (evA A env) o st = some (.ret (V j),st')∧Inv ops D V X (l.setIfInBounds j true) (put env o.dst (V j)) st')):=by
 obtain ⟨hj,hlj,o,ho,hedges⟩:=ready_iff.1 hr
 have hjl:j < l.size:=by rw [hI.size]; exact hj
 have hlj':l.getD j false = false:=by
  simp only [Array.getD_eq_getD_getElem?,Array.getElem?_eq_getElem hjl,Option.getD_some] at hlj ⊢
  exact hlj
 have hbef:∀ k,((Region.before ops).getD j 0).testBit k = true→l.getD k false = true:=by
  intro k hk
  obtain ⟨e,hm,hb,hlt,h⟩:=a4z ho T.edges hk
  have hon:=hedges e hm hb
  rcases h with rfl | h
  ·exact hon
  ·exact hI.closed.before T.edges e.on (by omega) hon k h
 have haft:∀ i,i < ops.size→l.getD i false = true→((Region.before ops).getD i 0).testBit j = false:=by
  intro i hi hl
  cases hb:((Region.before ops).getD i 0).testBit j with
  | false=>rfl
  | true=>
   have:=hI.closed.before T.edges i hi hl j hb
   unfold isOn at this
   rw [hlj'] at this; cases this
 have hs:=T.stp j o ho
 have hslot:∀ t ∈ slotsOf ops o,env[t]? = (D j).env[t]?:=by
  intro t ht
  rw [hI.env,T.env_eq j (Nat.le_of_lt hj)]
  have e1:V6 ops V (D 0).env (fun _=>true) j = V6 ops V (D 0).env (fun i=>decide (i < j)) ops.size:=by
   rw [envOf_cut,show min ops.size j = j by omega]
  rw [e1]
  refine envOf_at ops.size fun i hi hd=>?_
  by_cases hij:i = j
  ·subst hij; rw [hlj']; simp
  ·have hoi:=Array.getElem?_eq_getElem hi
   have hd':(ops[i]).dst = some t:=by simpa [a1s,hoi] using hd
   have hord:=a3z T.slots hoi hd' ho ht hij
   by_cases hlt:i < j
   ·rw [show max i j = j by omega,show min i j = i by omega] at hord
    rw [hbef i hord]; simp [hlt]
   ·rw [show max i j = i by omega,show min i j = j by omega] at hord
    have:l.getD i false = false:=by
     cases hl:l.getD i false with
     | false=>rfl
     | true=>rw [haft i hi hl] at hord; cases hord
    rw [this]; simp [hlt]
 have hgv:gv ops o env = gv ops o (D j).env:=gv_congr hslot
 have hop:∀ s,opR A C (wrs nt rid j) (evA A env) o s = opR A C (wrs nt rid j) (evA A (D j).env) o s:=fun s=>opR_congr (evA_congr hslot) s
 have hclosed:Closed ops (l.setIfInBounds j true):=by
  intro i oi hoi hon e hm hb
  unfold isOn at hon ⊢
  rw [a1I _ _ _ hjl] at hon ⊢
  split
  ·rfl
  ·split at hon
   ·rename_i hij
    subst hij
    rw [hoi] at ho; cases ho
    exact hedges e hm hb
   ·exact hI.closed i oi hoi hon e hm hb
 have henv:put env o.dst (V j) = V6 ops V (D 0).env (fun i=>(l.setIfInBounds j true).getD i false) ops.size:=by
  have e1:(fun i=>(l.setIfInBounds j true).getD i false) = fun i=>if i = j then true else l.getD i false:=funext fun i=>a1I l j i hjl
  rw [e1,envOf_add (l:=fun i=>l.getD i false) hlj' ops.size hj ?_,←hI.env]
  ·simp only [a1s,ho,Option.bind_some]
  ·intro i hij hi hl t hdj hdi
   have hoi:=Array.getElem?_eq_getElem hi
   have hd':(ops[i]).dst = some t:=by simpa [a1s,hoi] using hdi
   have hdj':o.dst = some t:=by simpa [a1s,ho] using hdj
   have hord:=a3z T.slots hoi hd' ho (t:=t) (by unfold slotsOf; simp [hdj']) (by omega)
   rw [show max i j = i by omega,show min i j = j by omega,haft i hi hl] at hord
   cases hord
 obtain ⟨c,hc,hcut,rfl⟩:=hI.cut
 have hcut':X j = false→∀ a,a < ops.size→X a = true→((l.setIfInBounds j true).getD a false = true ↔ a < c):=by
  intro hX a ha hXa
  rw [a1I _ _ _ hjl]
  have:¬ a = j:=by rintro rfl; rw [hX] at hXa; cases hXa
  simp only [this,if_false]
  exact hcut a ha hXa
 have mk:∀ v s,v = V j→(∃ c,c ≤ ops.size∧(∀ a,a < ops.size→X a = true→((l.setIfInBounds j true).getD a false = true ↔ a < c))∧s = (D c).st)→Inv ops D V X (l.setIfInBounds j true) (put env o.dst v) s:=by
  rintro v s rfl hcc
  exact ⟨by simp [hI.size],hclosed,henv,hcc⟩
 refine ⟨o,ho,hj,hlj',?_⟩
 rw [hgv]
 rcases hs.kind with h | h | h | h
 ·exact .inl ⟨h.1,mk _ _ h.2.1.symm ⟨c,hc,hcut' h.2.2.1,rfl⟩⟩
 ·refine .inr ⟨h.1,(D c).st,?_,mk _ _ rfl ⟨c,hc,hcut' h.2.2.1,rfl⟩⟩
  rw [hop]
  obtain ⟨G,hG⟩:=opR_pure (A:=A) h.2.1 (evA A (D j).env)
  have h1:=h.2.2.2.1
  rw [hG] at h1 ⊢
  obtain ⟨v,hv,h2⟩:=Option.map_eq_some_iff.1 h1
  cases h2
  rw [hv]; rfl
 ·obtain ⟨h1,hX,hread,hold,_,_,_,hrd⟩:=h
  refine .inr ⟨h1,(D c).st,?_,mk _ _ rfl ⟨c,hc,hcut' hX,rfl⟩⟩
  rw [hop]
  by_cases hcj:c ≤ j
  ·by_cases hex:∃ a,c ≤ a∧a < j∧X a = true
   ·obtain ⟨q,hq,hql⟩:=T.old_at j hcj (Nat.le_of_lt hj) hex
    refine hold _ (mem_len hq ?_)
    have:((D j).acts.filter fun a=>decide (c ≤ a)).length ≤ a21 (Region.before ops) j (D j).acts:=by
     unfold a21
     rw [←List.countP_eq_length_filter,←List.countP_eq_length_filter]
     refine List.countP_mono_left fun a ha hca=>?_
     obtain ⟨haj,hXa⟩:=(T.acts_mem j (Nat.le_of_lt hj) a).1 ha
     have hca':c ≤ a:=by simpa using hca
     cases hb:((Region.before ops).getD j 0).testBit a with
     | false=>rfl
     | true=>
      have:=(hcut a (by omega) hXa).1 (hbef a hb)
      omega
    omega
   ·rw [←T.st_same (i:=c) j hcj (Nat.le_of_lt hj) fun a ha ha'=>by
     cases hX:X a with
     | false=>rfl
     | true=>exact absurd ⟨a,ha,ha',hX⟩ hex]
    exact hread
  ·by_cases hex:∃ a,j ≤ a∧a < c∧X a = true
   ·obtain ⟨a,k1,k2,k3,k4⟩:=last_act hex
    have haj:a ≠ j:=by rintro rfl; rw [hX] at k3; cases k3
    have han:a < ops.size:=by omega
    rw [T.st_same (i:=a + 1) c (by omega) hc fun a' h4 h5=>k4 a' (by omega) h5]
    have hsa:=T.stp a _ (Array.getElem?_eq_getElem han)
    have hmem:(⟨j,(D j).env,o, .ret (V j)⟩:Rd) ∈ (D a).reads:=T.reads_mem (i:=j + 1) a (by omega) (by omega) (by rw [hrd]; exact List.mem_cons_self)
    have hla:l.getD a false = true:=(hcut a han k3).2 k2
    rcases hsa.kind with h | h | h | h
    ·rw [h.2.2.1] at k3; cases k3
    ·rw [h.2.2.1] at k3; cases k3
    ·rw [h.2.1] at k3; cases k3
    ·exact h.2.2.2.2.1 _ hmem (haft a han hla)
   ·rw [T.st_same (i:=j) c (by omega) hc fun a ha ha'=>by
     cases hX:X a with
     | false=>rfl
     | true=>exact absurd ⟨a,ha,ha',hX⟩ hex]
    exact hread
 ·obtain ⟨h1,hX,hloose,hact,_,_,_,_⟩:=h
  have hcj:c ≤ j:=by
   have:=hcut j hj hX
   rw [hlj'] at this
   by_cases h:j < c
   ·have:=this.2 h; cases this
   ·omega
  have hst:(D c).st = (D j).st:=(T.st_same (i:=c) j hcj (Nat.le_of_lt hj) fun a ha ha'=>by
   cases hXa:X a with
   | false=>rfl
   | true=>
    have:=(hcut a (by omega) hXa).1 (hbef a (T.chain hj hX ha' hXa))
    omega).symm
  refine .inr ⟨h1,(D (j + 1)).st,by rw [hop,hst]; exact hact,mk _ _ rfl ⟨j + 1,by omega,fun a ha hXa=>?_,rfl⟩⟩
  rw [a1I _ _ _ hjl]
  by_cases haj:a = j
  ·simp [haj]
  ·simp only [haj,if_false]
   rw [hcut a ha hXa]
   constructor
   ·intro h; omega
   ·intro h
    have:a < j:=by omega
    exact (hcut a ha hXa).1 (hbef a (T.chain hj hX this hXa))
theorem inv_end (T:Trc A C nt rid ops D V X) {l:Array Bool} {env:List AV} {st:Sto} (hI:Inv ops D V X l env st) (hr:Region.ready .any ops l = []):env = (D ops.size).env∧st = (D ops.size).st:=by
 have hall:=ready_nil T.edges hI.size hr
 constructor
 ·rw [hI.env,T.env_eq _ (Nat.le_refl _)]
  apply List.ext_getElem?
  intro t
  exact envOf_at _ fun i hi _=>hall i hi
 ·obtain ⟨c,hc,hcut,rfl⟩:=hI.cut
  refine (T.st_same (i:=c) ops.size hc (Nat.le_refl _) fun a ha ha'=>?_).symm
  cases hX:X a with
  | false=>rfl
  | true=>
   have:=(hcut a ha' hX).1 (hall a ha')
   omega
def cnt (l:Array Bool):Nat→Nat
 | 0=>0
 | n + 1=>cnt l n + if l.getD n false = true then 0 else 1
theorem cnt_set {l:Array Bool} {j:Nat} (hj:j < l.size) (hl:l.getD j false = false):∀ n,cnt (l.setIfInBounds j true) n + (if j < n then 1 else 0) = cnt l n:=by
 intro n
 induction n with
 | zero=>simp [cnt]
 | succ n ih=>
  simp only [cnt,a1I _ _ _ hj]
  by_cases hn:n = j
  ·subst hn
   simp only [hl,if_true,Nat.lt_irrefl,if_false] at ih ⊢
   simp at ih ⊢
   omega
  ·simp only [hn,if_false]
   by_cases h:j < n
   ·simp only [h,if_true] at ih
    simp only [show j < n + 1 by omega,if_true]
    omega
   ·simp only [h,if_false] at ih
    simp only [show ¬ j < n + 1 by omega,if_false]
    omega
theorem cnt_pos {l:Array Bool} {j:Nat} (hl:l.getD j false = false):∀ n,j < n→0 < cnt l n:=by
 intro n
 induction n with
 | zero=>intro h; omega
 | succ n ih=>
  intro h
  simp only [cnt]
  by_cases hn:n = j
  ·subst hn; simp [hl]
  ·have:=ih (by omega); omega
theorem cnt_le (l:Array Bool):∀ n,cnt l n ≤ n:=by
 intro n
 induction n with
 | zero=>exact Nat.le_refl _
 | succ n ih=>simp only [cnt]; split <;> omega
end
section
variable {P:Program} {A:P2} {w0:World} {R:Type}
theorem gv_sound {G:Gh} {ops:Array Oper} {o:Oper} {env:List AV} {dfr:List a3I} {a:Act} (hA:a0C G env dfr a) {q:Bool} (h:gv ops o env = some q):Region.wanted o (yielded ops a.tmps) = q:=by
 have hk:a0x ops o env (fun _=>some true) (fun _=>some false) = some q:=by
  rw [guardK_eq,h]
  cases q <;> rfl
 rcases a2Y hA hk with ⟨h1,_,_,h2⟩ | ⟨h1,_,_,h2⟩
 ·cases h2; exact h1
 ·cases h2; exact h1
theorem any_sound (hS:a1U P A w0) {C:Call} (hC:a2w P A w0 C) (hI:a3n A C) {nt:a0o} {rid:Nat} {ops:Array Oper} {kn:List AV→Sto→Option R} {kp:AV→Sto→Option R} {r:R} {G0:Gh} (hGl:a04 A G0) (ro:Option Nat) (dfr:List a3I)
  {D:Nat→DS} {V:Nat→AV} {X:Nat→Bool} (T:Trc A C nt rid ops D V X) (hk:kn (D ops.size).env (D ops.size).st = some r) :
  ∀ (n:Nat) (l:Array Bool) (env:List AV) (st:Sto) (G:Gh) (a:Act) (w:World),cnt l ops.size ≤ n→Inv ops D V X l env st→G0.le G→Rel A.bld A.u8 w0 G st w→a0C G env dfr a→wpAnyIn (WF ro) 0 P .any ops (RQ A w0 G0 dfr kn kp r) n l a w:=by
 intro n
 have fin:∀ (l:Array Bool) (env:List AV) (st:Sto) (G:Gh) (a:Act) (w:World),Inv ops D V X l env st→G0.le G→Rel A.bld A.u8 w0 G st w→a0C G env dfr a→Region.ready .any ops l = []→RQ A w0 G0 dfr kn kp r .normal a w:=by
  intro l env st G a w hi hG hR hA hr
  obtain ⟨rfl,rfl⟩:=inv_end T hi hr
  exact ⟨_,_,G,hG,hR,hA,hk⟩
 induction n with
 | zero=>
  intro l env st G a w hn hi hG hR hA
  have hr:Region.ready .any ops l = []:=by
   apply List.eq_nil_iff_forall_not_mem.2
   intro j hj
   obtain ⟨o,_,hjn,hlj,_⟩:=inv_step T hi hj
   have:=cnt_pos hlj _ hjn
   omega
  exact ⟨hr,fin l env st G a w hi hG hR hA hr⟩
 | succ n ih=>
  intro l env st G a w hn hi hG hR hA
  refine ⟨fin l env st G a w hi hG hR hA,fun j hj=>?_⟩
  obtain ⟨o,ho,hjn,hlj,hstep⟩:=inv_step T hi hj
  have hcnt:cnt (l.setIfInBounds j true) ops.size ≤ n:=by
   have:=cnt_set (by rw [hi.size]; exact hjn) hlj ops.size
   simp only [hjn,if_true] at this
   omega
  unfold wpOpIn
  simp only [ho]
  rcases hstep with ⟨hg,hi'⟩ | ⟨hg,st',hop,hi'⟩
  ·rw [gv_sound hA hg]
   simp only [Bool.false_eq_true,if_false]
   exact ⟨fun _ _=>trivial,ih _ _ _ G _ w hcnt hi' hG hR (hA.put _ (a1x G))⟩
  ·rw [gv_sound hA hg]
   simp only [if_true]
   have hnd:=a2o hop
   obtain ⟨out,s,hx,hop⟩:=a4A hS hC hI (hGl.mono hG) hR (evA_VR hA (hGl.mono hG)) hop
   cases hx
   refine a4t hA hnd hop (fun v x G' w' hx k1 k2 k3=>?_) (fun v x G' w' hx k1 k2 k3=>by cases hx)
   cases hx
   exact ih _ _ _ G' _ w' hcnt hi' (hG.trans k1) k2 ((hA.mono k1).put _ k3)
theorem drawLaw (hS:a1U P A w0):DrawLaw P A w0:=by
 intro ro C nt rid ops kn kp r G0 G env dfr st a w hC hI hGl hG hR hA h
 unfold a1p at h
 cases hok:(a0a ops && a1m ops (Region.before ops)) with
 | false=>simp only [hok,cond_false] at h; cases h
 | true=>
  simp only [hok,cond_true] at h
  simp only [Bool.and_eq_true] at hok
  obtain ⟨D,V,X,h1,h2,h3⟩:=drawOps_some _ _ _ h
  simp only [Nat.zero_add,Array.length_toList] at h2 h3
  have T:Trc A C nt rid ops D V X:=⟨fun j o ho=>h3 j o (by simpa using ho),by rw [h1],by rw [h1],by rw [h1],hok.1,hok.2⟩
  have hl0:∀ i,(Array.replicate ops.size false).getD i false = false:=by
   intro i
   simp only [Array.getD_eq_getD_getElem?,Array.getElem?_replicate]
   split <;> rfl
  refine any_sound hS hC hI hGl ro dfr T h2 ops.size _ env st G a _ (cnt_le _ _) ⟨by simp,fun i o ho hon=>(by unfold isOn at hon; rw [hl0] at hon; cases hon),?_,⟨0,Nat.zero_le _,fun a ha hX=>(by rw [hl0]; simp),(by rw [h1])⟩⟩ hG (a1t hR _) hA
  rw [h1]
  simp only
  have:∀ n,V6 ops V env (fun i=>(Array.replicate ops.size false).getD i false) n = env:=by
   intro n
   induction n with
   | zero=>rfl
   | succ n ih=>
    have hn:=hl0 n
    simp only [V6]
    rw [if_neg (by rw [hn]; decide),ih]
  rw [this]
end
end Go.St
namespace Go.St
open Go.RowKit
set_option linter.unusedVariables false
set_option linter.unusedSimpArgs false
def AItem.item:AItem→Item
 | .code _ c => .code c
 | .blk id => .inBlock id
 | .lp _ b => .inLoop b
 | .scope _ b => .inScope b
 | .begin => .beginRound
theorem a4y {R:Type} {id:Nat} {yes:List AItem→Option R} {no:Option R} {r:R}:∀ {t:List AItem},exitK id yes no t = some r →
  (∃ t',exitTo id (t.map AItem.item) = some (t'.map AItem.item)∧yes t' = some r)∨(exitTo id (t.map AItem.item) = none∧no = some r):=by
 intro t
 induction t with
 | nil=>intro h; exact .inr ⟨rfl,h⟩
 | cons x t ih=>
  intro h
  cases x with
  | blk i=>
   simp only [exitK,List.map_cons,AItem.item,exitTo] at h ⊢
   cases hi:i == id <;> simp only [hi,cond_true,cond_false,Bool.false_eq_true,if_true,if_false] at h ⊢
   ·exact ih h
   ·exact .inl ⟨t,rfl,h⟩
  | code p c=>exact ih h
  | lp p b=>exact ih h
  | scope p b=>exact ih h
  | begin=>exact ih h
theorem gotoA_item {l:Nat}:∀ {t t':List AItem},gotoA l t = some t'→gotoIn l (t.map AItem.item) = some (t'.map AItem.item):=by
 intro t
 induction t with
 | nil=>intro t' h; simp [gotoA] at h
 | cons x t ih=>
  intro t' h
  cases x with
  | scope p b=>
   simp only [gotoA,List.map_cons,AItem.item,gotoIn] at h ⊢
   cases hb:findLabel b l with
   | none=>simp only [hb] at h ⊢; exact ih h
   | some rest=>simp only [hb] at h ⊢; cases h; rfl
  | code p c=>exact ih h
  | lp p b=>exact ih h
  | blk i=>exact ih h
  | begin=>exact ih h
theorem stepR_inScope {P:Program} {b:Frame} {a:Act} {k:List Item} {cs:List Frame} {w:World} {c:Code}:step P (lone (b.atR a (.inScope c :: k)) cs w) = .next (lone (b.atR a k) cs w):=
 step_lone_go (by simp [stepG,stepG.exec,Frame.atR])
theorem stepR_scope {P:Program} {b:Frame} {a:Act} {k:List Item} {cs:List Frame} {w:World} {c:Code}:step P (lone (b.atR a (.code (.scope c) :: k)) cs w) = .next (lone (b.atR a (.code c :: .inScope c :: k)) cs w):=
 step_lone_go (by simp [stepG,stepG.exec,Frame.atR])
theorem step_collected {P:Program} {fr:Frame} {cs:List Frame} {w w':World} {r:Nat} {ds:List Deferred} (hm:fr.mode = .returning) (hd:fr.defers = { target := .collected r,args:=#[] } :: ds)
  (h:(Instr.takeDeferred r).run P w = .ok [] w'):step P (lone fr cs w) = .next (lone { fr with defers:=ds } cs w'):=
 step_lone_go (by simp [stepG,unwind,hm,hd,Sem.runT_eq,h])
section
variable {P:Program} {A:P2} {w0:World} {G:Gh} {st st':Sto} {w:World} {R:Type}
theorem keep_VRs (l:List Nat):∀ (i:Nat) {as:List AV} {vs:List Value},VRs G as vs→VRs G (keep l i as) vs:=by
 intro i as
 induction as generalizing i with
 | nil=>intro vs h; exact h
 | cons x as ih=>
  intro vs h
  obtain ⟨v,vs,rfl,h1,h2⟩:=h.head
  refine VRs.cons ?_ (ih (i + 1) h2)
  cases l.contains i
  ·exact .any v
  ·exact h1
theorem keepAt_R {nt:a0o} {p:Path} {env:List AV} {dfr:List a3I} {a:Act} (h:a0C G env dfr a):a0C G (nt.keepAt p env) dfr a:=by
 unfold a0o.keepAt
 split
 ·exact ⟨keep_VRs _ 0 h.vals,h.dfr⟩
 ·exact h
theorem r_load (hT:X1 P A) (hR:Rel A.bld A.u8 w0 G st w) {t:TypeId} {td:TD} (ht:P0 t A.tab = some td) {p v:AV} {pv:Value} (h:ld td.isAgg td.size st p = some v) (hp:VR G p pv) :
  ∃ b o v',pv = .pointer (some ⟨b,o,none⟩)∧(loadVar t ⟨b,o,none⟩).run P w = .ok v' w∧VR G v v':=by
 obtain ⟨i,d,hi,hd,hs,_,hk,_⟩:=(hT t td ht).ok
 unfold ld at h
 cases hc:V7 st p td.size with
 | none=>simp [hc] at h
 | some cs=>
  simp only [hc,Option.bind_some] at h
  obtain ⟨b,o,vs,rfl,hv,hn,hcell⟩:=a1X hR hc hp
  have hcells:(loadCells ⟨b,o,none⟩ td.size).run P w = .ok vs.toArray w:=by
   rw [←hn]
   exact run_loadCells_list w ⟨b,o,none⟩ vs fun j v hj=>by rw [add_lit]; exact hcell j v hj
  unfold pack at h
  cases hag:td.isAgg with
  | true=>
   simp only [hag,if_true] at h
   cases h
   refine ⟨b,o, .agg vs.toArray,rfl,?_,(.agg cs vs.toArray (by simpa using hv.len) fun j a v ha hv'=>hv.at_ j a v ha (by simpa using hv'))⟩
   simp [loadVar,a2m hd hk,hag,X0 hi,hs,hcells]
  | false=>
   simp only [hag,Bool.false_eq_true,if_false] at h
   split at h
   ·rename_i c
    cases h
    obtain ⟨v',ws,rfl,h1,h2⟩:=hv.head
    have hw:w.cell? ⟨b,o,none⟩ = some v':=by have:=hcell 0 v' rfl; simpa using this
    refine ⟨b,o,v',rfl,?_,h1⟩
    simp [loadVar,a2m hd hk,hag,hw]
   ·cases h
theorem evT {env:List AV} {dfr:List a3I} {a:Act} (hA:a0C G env dfr a) (t:Tmp):VR G (env.getD t (.tup [])) (a.tmps.getD t undef):=
 evA_VR (A:=⟨[],[],[],[],[],[],0,0,false,[],[],[]⟩) hA (fun g cs hg=>by cases hg) (.tmp t)
def resS (tmps:Array Value):ResultVar→Sem Value
 | .tmp t=>Pure.pure (tmps.getD t undef)
 | .cell c t=>do loadVar t (←asAddr (tmps.getD c undef))
theorem results_eq (fn:Func) (tmps:Array Value):results fn tmps = (do
  let vs ←fn.results.mapM (resS tmps)
  Pure.pure (if h:vs.size = 1 then vs[0] else .tuple vs)):=rfl
theorem resA_sound (hT:X1 P A) (hR:Rel A.bld A.u8 w0 G st w) {env:List AV} {dfr:List a3I} {a:Act} (hA:a0C G env dfr a):∀ {rs:List ResultVar} {k:List AV→Option Res} {r:Res},resA A env st rs k = some r →
  ∃ xs ys,k xs = some r∧(rs.mapM (resS a.tmps):Sem (List Value)).run P w = .ok ys w∧VRs G xs ys:=by
 intro rs
 induction rs with
 | nil=>intro k r h; exact ⟨[],[],h,by simp,VRs.nil G⟩
 | cons x rs ih=>
  intro k r h
  cases x with
  | tmp t=>
   simp only [resA] at h
   obtain ⟨xs,ys,h1,h2,h3⟩:=ih h
   refine ⟨_ :: xs,_ :: ys,h1,?_,VRs.cons (evT hA t) h3⟩
   simp only [List.mapM_cons,resS,Sem.run_bind,Sem.run_pure,Result.andThen_ok,h2]
  | cell c t=>
   simp only [resA] at h
   obtain ⟨td,ht,h⟩:=bind_some h
   obtain ⟨v,hv,h⟩:=bind_some h
   obtain ⟨b,o,v',k1,k2,k3⟩:=r_load hT hR ht hv (evT hA c)
   obtain ⟨xs,ys,h1,h2,h3⟩:=ih h
   refine ⟨_ :: xs,_ :: ys,h1,?_,VRs.cons k3 h3⟩
   have ka:(asAddr (a.tmps.getD c undef)).run P w = .ok ⟨b,o,none⟩ w:=by rw [k1]; rfl
   simp only [List.mapM_cons,resS,Sem.run_bind,Sem.run_pure,Result.andThen_ok,h2,ka,k2]
theorem tupA_VR {xs:List AV} {ys:List Value} (h:VRs G xs ys):VR G (tupA xs) (if h:ys.toArray.size = 1 then ys.toArray[0] else .tuple ys.toArray):=by
 cases xs with
 | nil=>
  have:ys = []:=List.eq_nil_of_length_eq_zero (by rw [←h.len]; rfl)
  subst this
  exact a1x G
 | cons x xs=>
  obtain ⟨y,ys,rfl,h1,h2⟩:=h.head
  cases xs with
  | nil=>
   have:ys = []:=List.eq_nil_of_length_eq_zero (by rw [←h2.len]; rfl)
   subst this
   exact h1
  | cons x' xs=>
   obtain ⟨y',ys,rfl,_,_⟩:=h2.head
   exact VRs.tup (vs:=(y :: y' :: ys).toArray) (by simpa using h)
theorem a3k {own:Nat→Option Nat} (hR:a13 A.bld A.u8 w0 G own st w) {i b:Nat} {ob0 ob:Ob} (hi:st[i]? = some ob0) (hv:ob0.ver ≤ ob.ver) (hown:own b = some i) {o0 o:Obj} (hb:w.heap[b]? = some o0) (hnc:∀ arr t fr,o0 ≠ .cells arr t fr)
  (hob:∀ w':World,w'.heap[b]? = some o→(∀ k,k ≠ b→w'.heap[k]? = w.heap[k]?)→ObR A.bld A.u8 G own w' i ob):a13 A.bld A.u8 w0 G own (st.set i ob) { w with heap:=w.heap.setIfInBounds b o }:=by
 have hlt:b < w.heap.size:=(hR.ownlt b i hown).2
 have hb':({ w with heap:=w.heap.setIfInBounds b o }:World).heap[b]? = some o:=by simp [hlt]
 have hne:∀ k,k ≠ b→({ w with heap:=w.heap.setIfInBounds b o }:World).heap[k]? = w.heap[k]?:=fun k hk=>by simp [Array.getElem?_setIfInBounds_ne (Ne.symm hk)]
 refine hR.upd (S:=fun k=>k = b) i ob rfl rfl rfl (by simp) hne (fun k hk=>?_) (Gh.le.refl G) (fun _ _=>rfl) (fun k l hk hl=>?_) (fun k n hn => .inl ⟨fun e=>?_,hn⟩) (.inl ⟨rfl,ob0,hi,hv⟩) (fun k => .inl rfl) (fun j g x hx => .inl hx) (hob _ hb' hne)
 ·subst hk; exact ⟨(hR.ownlt _ _ hown).1, .inr hown⟩
 ·subst hk
  obtain ⟨arr,t,fr,m,h1,_⟩:=hR.prot k l hl
  rw [hb] at h1
  cases h1
  exact absurd rfl (hnc _ _ _)
 ·subst e
  obtain ⟨arr,t,fr,h1,_⟩:=hR.size k n hn
  rw [hb] at h1
  cases h1
  exact hnc _ _ _ rfl
def a1o.obj (l:a1o) (tmps:Array Value) (r:Nat):Loop:={ state:=l.state,pending:=l.pending,fn:=l.fn,tmps:=tmps,params:=l.params.toArray,assign:=l.assign,body:=l.body,defers:=r }
theorem loop_at {own:Nat→Option Nat} (hR:a13 A.bld A.u8 w0 G own st w) {id:Nat} {l:a1o} (h:st[id]? = some (.loop l)) {b:Nat} (hb:G.ρ id 0 = some (b,0)) :
  ∃ r tmps,w.heap[b]? = some (.loop (l.obj tmps r))∧VRs G l.env tmps.toList∧G.ρ id 1 = some (r,0)∧own r = some id∧w.heap[r]? = some (.deferred (some [])) ∧
   ∀ (s:LoopState) (p:Option Code),Rel A.bld A.u8 w0 G (st.set id (.loop { l with state:=s,pending:=p })) { w with heap:=w.heap.setIfInBounds b (.loop (({ l with state:=s,pending:=p }:a1o).obj tmps r)) }:=by
 obtain ⟨b',r,tmps,h1,h2,h3,h4,h5,h6,h7,h8⟩:=hR.obj id _ h
 rw [hb] at h1
 cases h1
 refine ⟨r,tmps,h6,h7,h2,h4,h8,fun s p=>⟨own,a3k hR h (ob := .loop { l with state:=s,pending:=p }) (Nat.le_refl 1) h3 h6 (fun _ _ _ e=>by cases e) fun w' e1 e2=>?_⟩⟩
 exact ⟨b,r,tmps,hb,h2,h3,h4,h5,e1,h7,(e2 r (Ne.symm h5)).trans h8⟩
theorem loop_dead {own:Nat→Option Nat} (hR:a13 A.bld A.u8 w0 G own st w) {id r:Nat} {l:a1o} (h:st[id]? = some (.loop l)) (hr:G.ρ id 1 = some (r,0)) :
  ∃ w',(Instr.takeDeferred r).run P w = .ok [] w'∧a13 A.bld A.u8 w0 G own (st.set id .dead) w':=by
 obtain ⟨b,r',tmps,h1,h2,h3,h4,h5,h6,h7,h8⟩:=hR.obj id _ h
 rw [hr] at h2
 cases h2
 refine ⟨{ w with heap:=w.heap.setIfInBounds r (.deferred none) },?_,a3k hR h (ob := .dead) (Nat.le_refl 1) h4 h8 (fun _ _ _ e=>by cases e) fun w' _ _=>trivial⟩
 simp [Instr.takeDeferred,getObj,setObj,Sem.run,h8]
theorem rel_newloop (hR:Rel A.bld A.u8 w0 G st w) {l:a1o} {tmps:Array Value} (hv:VRs G l.env tmps.toList) :
  ∃ G',G.le G'∧G'.ρ st.length 0 = some (w.heap.size + 1,0)∧G'.ρ st.length 1 = some (w.heap.size,0) ∧
   Rel A.bld A.u8 w0 G' (st ++ [.loop l]) ((w.alloc (.deferred (some []))).alloc (.loop (l.obj tmps w.heap.size))):=by
 obtain ⟨own,hR⟩:=hR
 obtain ⟨n,hn⟩:∃ n,n = w.heap.size:=⟨_,rfl⟩
 have hHlt:∀ b l,G.H b = some l→b < n:=fun b l hb=>by
  obtain ⟨_,_,_,_,hh,_⟩:=hR.prot b l hb
  rw [hn]; exact (Array.getElem?_eq_some_iff.1 hh).1
 have hZlt:∀ b l,G.Z b = some l→b < n:=fun b l hb=>by
  obtain ⟨_,_,_,hh,_⟩:=hR.size b l hb
  rw [hn]; exact (Array.getElem?_eq_some_iff.1 hh).1
 have hdom:∀ i g x,G.ρ i g = some x→i < st.length:=fun i g x hx=>by
  obtain ⟨ob,ho,_⟩:=hR.dom i g x hx
  exact (List.getElem?_eq_some_iff.1 ho).1
 have hown:∀ b i,own b = some i→b < n:=fun b i hb=>by rw [hn]; exact (hR.ownlt b i hb).2
 have hlow:w0.heap.size ≤ n:=by rw [hn]; exact hR.below.size
 obtain ⟨G',hG'⟩:∃ G':Gh,G' = { ρ:=fun i g=>if i = st.length then (if g = 0 then some (n + 1,0) else if g = 1 then some (n,0) else none) else G.ρ i g,H:=G.H,Z:=G.Z }:=⟨_,rfl⟩
 have hle:G.le G':=by
  subst hG'
  refine ⟨fun i g x hx=>?_,fun b l hb=>⟨[],by simpa using hb⟩,fun b n hb=>hb⟩
  have:=hdom i g x hx
  simp only
  rw [if_neg (by omega)]
  exact hx
 have h0:G'.ρ st.length 0 = some (n + 1,0):=by subst hG'; simp
 have h1:G'.ρ st.length 1 = some (n,0):=by subst hG'; simp
 have hH:G'.H = G.H:=by subst hG'; rfl
 have hZ:G'.Z = G.Z:=by subst hG'; rfl
 obtain ⟨w',hw'⟩:∃ w':World,w' = (w.alloc (.deferred (some []))).alloc (.loop (l.obj tmps n)):=⟨_,rfl⟩
 have hheap:w'.heap = (w.heap.push (.deferred (some []))).push (.loop (l.obj tmps n)):=by subst hw'; rfl
 have hsz:w'.heap.size = n + 2:=by rw [hheap]; simp [hn]
 have hat0:w'.heap[n]? = some (.deferred (some [])):=by rw [hheap,Array.getElem?_push,if_neg (by simp [hn]),Array.getElem?_push,if_pos hn]
 have hat1:w'.heap[n + 1]? = some (.loop (l.obj tmps n)):=by rw [hheap,Array.getElem?_push,if_pos (by simp [hn])]
 refine ⟨G',hle,by rw [←hn]; exact h0,by rw [←hn]; exact h1,fun k=>if k = n∨k = n + 1 then some st.length else own k,?_⟩
 rw [←hn,←hw']
 refine hR.upd (S:=fun k=>k = n∨k = n + 1) st.length (.loop l) (by subst hw'; rfl) (by subst hw'; rfl) (by subst hw'; rfl) (by rw [hsz,hn]; omega) (fun k hk=>?_) (fun k hk=>?_) hle (fun k _=>by rw [hH]) (fun k l hk hl=>?_) (fun k m hm=>?_) (.inr ⟨rfl,rfl⟩) (fun k=>?_) (fun j g x hx=>?_) ?_
 ·rw [hheap,Array.getElem?_push,if_neg (by simp only [Array.size_push]; rw [←hn]; omega),Array.getElem?_push,if_neg (by rw [←hn]; omega)]
 ·refine ⟨by omega, .inl ?_⟩
  cases ho:own k with
  | none=>rfl
  | some i=>have:=hown k i ho; omega
 ·rw [hH] at hl
  have:=hHlt k l hl
  omega
 ·rw [hZ] at hm
  have:=hZlt k m hm
  exact .inl ⟨by omega,hm⟩
 ·by_cases hk:k = n∨k = n + 1
  ·exact .inr ⟨hk, .inl (by simp [hk]),by omega⟩
  ·exact .inl (by simp [hk])
 ·subst hG'
  simp only at hx
  split at hx
  ·rename_i hj
   refine .inr ⟨hj,?_⟩
   show g ≤ 1
   split at hx
   ·omega
   ·split at hx
    ·omega
    ·cases hx
  ·exact .inl hx
 ·exact ⟨n + 1,n,tmps,h0,h1,by simp,by simp,by omega,hat1,hv.mono hle,hat0⟩
theorem run_enterLoop {fn:FuncId} {tmps:Array Value} {ps:Array Tmp} {assign body:Code} :
  (Instr.enterLoop fn tmps ps assign body none).run P w = .ok (w.heap.size + 1,[{ target := .collected w.heap.size,args:=#[] }]) ((w.alloc (.deferred (some []))).alloc (.loop { state := .ready,pending:=none,fn,tmps,params:=ps,assign,body,defers:=w.heap.size })):=by
 have h:(w.alloc (.deferred (some []))).heap.size = w.heap.size + 1:=by show (w.heap.push _).size = _; simp
 rw [←h]
 rfl
theorem setAll_VRs:∀ {env:List AV} {tmps:List Value} {ps:List Tmp} {args:List AV} {vs:List Value},VRs G env tmps→VRs G args vs →
  VRs G (a3B env ps args) ((ps.zip vs).foldl (fun t (p,v)=>t.set p v) tmps):=by
 intro env tmps ps
 induction ps generalizing env tmps with
 | nil=>intro args vs h _; simpa [a3B] using h
 | cons p ps ih=>
  intro args vs h hv
  cases args with
  | nil=>
   have:vs = []:=List.eq_nil_of_length_eq_zero (by rw [←hv.len]; rfl)
   subst this
   simpa [a3B] using h
  | cons x xs=>
   obtain ⟨v,vs,rfl,h1,h2⟩:=hv.head
   simp only [a3B,List.zip_cons_cons,List.foldl_cons]
   exact ih (h.set p h1) h2
theorem setAll_toList:∀ {ps:List Tmp} {vs:List Value} {tmps:Array Value},
  ((ps.zip vs).foldl (fun (t:Array Value) (p,v)=>t.setIfInBounds p v) tmps).toList = (ps.zip vs).foldl (fun t (p,v)=>t.set p v) tmps.toList:=by
 intro ps
 induction ps with
 | nil=>intro vs tmps; rfl
 | cons p ps ih=>
  intro vs tmps
  cases vs with
  | nil=>rfl
  | cons v vs=>
   simp only [List.zip_cons_cons,List.foldl_cons]
   rw [ih]
   simp
def Ends (P:Program) (A:P2) (w0:World) (G0:Gh) (r:Res) (m:Machine) (f:FuncId) (cs:List Frame):Option Nat→Prop
 | none=>∃ e w' fr,a0f A w0 G0 r.out r.st e w'∧Steps P m (lone fr cs w')∧fr.fn = f∧fr.leaving P w' e
 | some _=>∀ c0 cs',cs = c0 :: cs'→∃ v w',a0f A w0 G0 r.out r.st (.returned v) w'∧Steps P m (lone (c0.finish v) cs' w')
theorem Ends.of_steps {G0:Gh} {r:Res} {m m':Machine} {f:FuncId} {cs:List Frame} {rd:Option Nat} (h:Steps P m m') (h':Ends P A w0 G0 r m' f cs rd):Ends P A w0 G0 r m f cs rd:=by
 cases rd with
 | none=>
  obtain ⟨e,w',fr,h1,h2,h3⟩:=h'
  exact ⟨e,w',fr,h1,h.trans h2,h3⟩
 | some id=>
  intro c0 cs' hc
  obtain ⟨v,w',h1,h2⟩:=h' c0 cs' hc
  exact ⟨v,w',h1,h.trans h2⟩
theorem marks_sound:∀ {l:List a3I} {st st':Sto} {w:World} {own:Nat→Option Nat},a2N l st = some st'→a13 A.bld A.u8 w0 G own st w→∀ {fr:Frame} {cs:List Frame},DfrR G l fr.defers→fr.mode = .returning →
  ∃ w',a13 A.bld A.u8 w0 G own st' w'∧Steps P (lone fr cs w) (lone { fr with defers:=[] } cs w'):=by
 intro l
 induction l with
 | nil=>
  intro st st' w own h hR fr cs hd hm
  cases h
  refine ⟨w,hR,?_⟩
  have:=hd.none
  have e:({ fr with defers:=[] }:Frame) = fr:=by cases fr; simp at this; subst this; rfl
  rw [e]
  exact Steps.refl _ _
 | cons d l ih=>
  intro st st' w own h hR fr cs hd hm
  generalize hds:fr.defers = ds at hd
  cases hd with
  | mark h1 hd=>
   simp only [a2N] at h
   split at h
   ·rename_i lp hlp
    obtain ⟨w',k1,k2⟩:=loop_dead (P:=P) hR hlp h1
    have hs:=step_collected (cs:=cs) hm hds k1
    obtain ⟨w'',m1,m2⟩:=ih h k2 (fr:={ fr with defers:=_ }) (cs:=cs) hd hm
    exact ⟨w'',m1, .head hs m2⟩
   ·cases h
theorem finA_sound (hS:a1U P A w0) {G0:Gh} {c:Cfg} {r:Res} (h:finA A c = some r) (hG:G0.le G) (hR:Rel A.bld A.u8 w0 G c.st w) {a:Act} (hA:a0C G c.env c.dfr a) {b:Frame} (hb:b.fn = c.f) (hk:b.kind = .normal) (todo:List Item) (cs:List Frame) :
  Ends P A w0 G0 r (lone { b.atR a todo with mode := .returning } cs w) c.f cs none:=by
 unfold finA at h
 obtain ⟨st',hm,h⟩:=bind_some h
 obtain ⟨own,hRo⟩:=hR
 obtain ⟨w',k1,k2⟩:=marks_sound (P:=P) hm hRo (fr:={ b.atR a todo with mode := .returning }) (cs:=cs) hA.dfr rfl
 obtain ⟨fn,hfn,h⟩:=bind_some h
 obtain ⟨xs,ys,h1,h2,h3⟩:=resA_sound hS.tab ⟨own,k1⟩ hA h
 cases h1
 refine ⟨.returned _,w',_,⟨G,hG,⟨own,k1⟩,_,rfl,tupA_VR h3⟩,k2,hb,rfl,rfl,hk,fn,?_,?_⟩
 ·show P.funcs[b.fn]? = some fn
  rw [hb]
  exact (hS.fns _ _ hfn).1
 ·show (results fn a.tmps).run P w' = _
  rw [results_eq,Array.mapM_eq_mapM_toList]
  simp only [Sem.run_bind,Sem.run_map,h2,Result.andThen_ok,Sem.run_pure]
theorem panA_sound {G0:Gh} {c:Cfg} {x:AV} {s:Sto} {r:Res} (h:panA c x s = some r) {v:Value} (hG:G0.le G) (hR:Rel A.bld A.u8 w0 G s w) (hx:VR G x v):c.dfr = []∧c.rd = none∧a0f A w0 G0 r.out r.st (.panicked [{ v,recovered:=false }]) w:=by
 unfold panA at h
 split at h
 ·rename_i h1 h2
  cases h
  exact ⟨h1,h2,G,hG,hR,x,v,rfl,rfl,hx⟩
 ·cases h
def RdR (G:Gh):Option Nat→Option Nat→Prop
 | none,none=>True
 | some id,some l=>G.ρ id 0 = some (l,0)
 | _,_=>False
theorem RdR.mono {G G':Gh} (h:G.le G') {rd ro:Option Nat} (k:RdR G rd ro):RdR G' rd ro:=by
 cases rd <;> cases ro <;> simp only [RdR] at k ⊢
 exact h.ρ _ _ _ k
theorem a2X {G0 G:Gh} (hG:G0.le G) {c:Cfg} {r:Res} {K:Y5} {t:List AItem} {env0:List AV} {b:Frame} {cs:List Frame} {fn:Func} (hf:P.funcs[c.f]? = some fn) (hb:b.fn = c.f)
  (hK:∀ env st G' a w,K { c with todo:=t,env:=env,st:=st } = some r→G.le G'→Rel A.bld A.u8 w0 G' st w→a0C G' env c.dfr a→Ends P A w0 G0 r (lone (b.atR a (t.map AItem.item)) cs w) c.f cs c.rd)
  {code:Code} {a:Act} (h:code.wpIn (WF b.roundOf) 0 P (RQ A w0 G c.dfr (fun env' st'=>K { c with todo:=t,env:=env',st:=st' }) (panA { c with env:=env0 }) r) a w) :
  Ends P A w0 G0 r (lone (b.atR a (.code code :: t.map AItem.item)) cs w) c.f cs c.rd:=by
 obtain ⟨e,a',w',hq,harr⟩:=h b (t.map AItem.item) cs rfl trivial (WF.room _ _)
 cases e with
 | normal=>
  obtain ⟨env,st,G',h1,h2,h3,h4⟩:=hq
  exact (hK env st G' a' w' h4 h1 h2 h3).of_steps (WF.steps.1 harr)
 | panic ch=>
  obtain ⟨x,v,st,G',rfl,h1,h2,h3,h4,h5⟩:=hq
  obtain ⟨todo,hs⟩:=harr
  obtain ⟨k1,k2,k3⟩:=panA_sound h5 (hG.trans h1) h2 h3
  simp only at k1 k2
  rw [k1] at h4
  rw [k2]
  exact ⟨.panicked _,w',_,k3,WF.steps.1 hs,hb,rfl,h4.none,fn,by show P.funcs[b.fn]? = some fn; rw [hb]; exact hf⟩
 | exit id=>exact hq.elim
 | goto l=>exact hq.elim
 | ret=>exact hq.elim
 | outgrown=>exact hq.elim
def RunOk (P:Program) (A:P2) (w0:World) (K:Y5):Prop:=∀ (c:Cfg) (r:Res),K c = some r→∀ (G0 G:Gh) (a:Act) (w:World) (b:Frame) (cs:List Frame) (fn:Func),a04 A G0→G0.le G→Rel A.bld A.u8 w0 G c.st w→a0C G c.env c.dfr a→(c.rd ≠ none→c.dfr = []) →
 P.funcs[c.f]? = some fn→b.fn = c.f→b.kind = .normal→RdR G c.rd b.roundOf→Ends P A w0 G0 r (lone (b.atR a (c.todo.map AItem.item)) cs w) c.f cs c.rd
theorem a2d {G0:Gh} {id l:Nat} {jump:Option Code} {r:Res} (h:rEnd st id jump = some r) (hG:G0.le G) (hR:Rel A.bld A.u8 w0 G st w) (hl:G.ρ id 0 = some (l,0)) :
  ∃ v w',(Instr.endRound l jump).run P w = .ok v w'∧a0f A w0 G0 r.out r.st (.returned v) w':=by
 unfold rEnd at h
 split at h
 ·rename_i lp hlp
  obtain ⟨own,hRo⟩:=hR
  obtain ⟨rr,tmps,h1,h2,h3,h4,h5,h6⟩:=loop_at hRo hlp hl
  cases h
  have k:=h6 (if jump.isNone = true then .ready else .done) jump
  refine ⟨.bool jump.isNone,_,?_,G,hG,k,_,rfl, .bool _⟩
  simp [Instr.endRound,Instr.getLoop,getObj,setObj,Sem.run,h1,a1o.obj]
 ·cases h
theorem rangeA_some {C:Call} {f:AV} {args:List AV} {st:Sto} {r:Out × Sto} (h:rangeA A C f args st = some r):∃ g first cap,f = .fn (.func g) first cap∧g ≠ rnd∧C g (first ++ args ++ cap) st = some r:=by
 unfold rangeA at h
 split at h
 ·rename_i g first cap
  refine ⟨g,first,cap,rfl,?_⟩
  cases hp:P0 g A.prims with
  | some p=>rw [hp] at h; cases h
  | none=>
   rw [hp] at h
   cases hb:Nat.beq g rnd with
   | true=>simp only [hb] at h; cases h
   | false=>
    simp only [hb] at h
    exact ⟨fun e=>(by rw [e] at hb; simp [rnd] at hb),h⟩
 ·cases h
theorem stepF_sound (hS:a1U P A w0) {C:Call} (hC:a2w P A w0 C) (hI:a3n A C) {K:Y5} (hK:RunOk P A w0 K):RunOk P A w0 (a2i A C K):=by
 intro c r h G0 G a w b cs fn hGl hG hR hA hd hf hb hk hrd
 have fin:∀ {c':Cfg} {todo:List Item} {a':Act} {G':Gh} {w':World} {m:Machine},c'.f = c.f→c.rd = none→G0.le G'→Rel A.bld A.u8 w0 G' c'.st w'→a0C G' c'.env c'.dfr a'→finA A c' = some r→Steps P m (lone { b.atR a' todo with mode := .returning } cs w')→Ends P A w0 G0 r m c.f cs c.rd:=by
  intro c' todo a' G' w' m e1 e0 eG eR e3 e4 e5
  have:=finA_sound hS e4 eG eR e3 (hb.trans e1.symm) hk todo cs
  rw [e0]
  rw [e1] at this
  exact this.of_steps e5
 have go:∀ {t:List AItem} {env:List AV} {m:Machine},K { c with todo:=t,env:=env } = some r→a0C G env c.dfr a→Steps P m (lone (b.atR a (t.map AItem.item)) cs w)→Ends P A w0 G0 r m c.f cs c.rd:=by
  intro t env m e1 e2 e3
  exact (hK _ _ e1 G0 G a w b cs fn hGl hG hR e2 hd hf hb hk hrd).of_steps e3
 have none_of:c.rd = none→b.roundOf = none:=by
  intro e
  rw [e] at hrd
  cases hro:b.roundOf with
  | none=>rfl
  | some l=>rw [hro] at hrd; exact hrd.elim
 have some_of:∀ {id},c.rd = some id→∃ l,b.roundOf = some l∧G.ρ id 0 = some (l,0):=by
  intro id e
  rw [e] at hrd
  cases hro:b.roundOf with
  | none=>rw [hro] at hrd; exact hrd.elim
  | some l=>rw [hro] at hrd; exact ⟨l,rfl,hrd⟩
 unfold a2i at h
 split at h
 ·rename_i ht
  rw [ht]
  split at h
  ·rename_i hr0
   exact fin rfl hr0 hG hR hA h (.one (stepR_end (none_of hr0)))
  ·rename_i id hr0
   obtain ⟨l,h1,h2⟩:=some_of hr0
   obtain ⟨v,w',k1,k2⟩:=a2d (P:=P) h hG hR h2
   rw [hr0]
   rintro c0 cs' rfl
   exact ⟨v,w',k2, .one (stepR_round_end h1 hk k1)⟩
 ·rename_i t ht
  obtain ⟨id,hr0,h⟩:=bind_some h
  obtain ⟨st',hbg,h⟩:=bind_some h
  obtain ⟨l,h1,h2⟩:=some_of hr0
  unfold rBeg at hbg
  split at hbg
  ·rename_i lp hlp
   split at hbg
   ·rename_i hst
    obtain ⟨own,hRo⟩:=hR
    obtain ⟨rr,tmps,m1,m2,m3,m4,m5,m6⟩:=loop_at hRo hlp h2
    have hR':=m6 .busy lp.pending
    cases hbg
    rw [ht]
    have hrun:(Instr.beginRound l).run P w = .ok () { w with heap:=w.heap.setIfInBounds l (.loop (({ lp with state := .busy,pending:=lp.pending }:a1o).obj tmps rr)) }:=by
     simp [Instr.beginRound,Instr.getLoop,getObj,setObj,Sem.run,m1,a1o.obj,hst]
    exact (hK _ _ h G0 G a _ b cs fn hGl hG hR' hA hd hf hb hk hrd).of_steps (.one (stepR_beginRound h1 hrun))
   ·cases hbg
  ·cases hbg
 ·rename_i ht
  rw [ht]
  exact go (env:=c.env) h hA (.one stepR_inBlock)
 ·rename_i ht
  rw [ht]
  exact go (env:=c.env) h hA (.one stepR_inScope)
 ·rename_i p body t ht
  rw [ht]
  exact go (env:=c.env) h hA (.one stepR_inLoop)
 ·rename_i p code t ht
  rw [ht]
  have hA':a0C G ((A.note c.f).keepAt p c.env) c.dfr a:=keepAt_R hA
  simp only [List.map_cons,AItem.item]
  cases code with
  | skip=>exact go h hA' (.one stepR_skip)
  | label l=>exact go h hA' (.one stepR_label)
  | ret=>
   simp only at h
   split at h
   ·rename_i hr0
    exact fin (c':={ c with env:=(A.note c.f).keepAt p c.env }) rfl hr0 hG hR hA' h (.one (stepR_ret (none_of hr0)))
   ·rename_i id hr0
    obtain ⟨l,h1,h2⟩:=some_of hr0
    obtain ⟨v,w',k1,k2⟩:=a2d (P:=P) h hG hR h2
    rw [hr0]
    rintro c0 cs' rfl
    exact ⟨v,w',k2, .one (stepR_round_ret h1 hk k1)⟩
  | seq x y=>exact go h hA' (.one stepR_seq)
  | cond x u v=>
   obtain ⟨q,hq,h⟩:=bind_some h
   have hx:=evA_VR hA' (hGl.mono hG) x
   rw [a2R hq] at hx
   have hs:=stepR_cond (P:=P) (b:=b) (a:=a) (k:=t.map AItem.item) (cs:=cs) (w:=w) (c:=x) (x:=u) (y:=v) hx.bool_inv
   cases q
   ·exact go h hA' (.one hs)
   ·exact go h hA' (.one hs)
  | block id body=>exact go h hA' (.one stepR_block)
  | loop body=>exact go h hA' (.one stepR_loop)
  | scope body=>exact go h hA' (.one stepR_scope)
  | exit id=>
   rcases a4y h with ⟨t',ht',h⟩ | ⟨ht',h⟩
   ·exact go h hA' (.one (stepR_exit ht'))
   ·split at h
    ·cases h
    ·rename_i l0 hr0
     obtain ⟨l,h1,h2⟩:=some_of hr0
     obtain ⟨v,w',k1,k2⟩:=a2d (P:=P) h hG hR h2
     rw [hr0]
     rintro c0 cs' rfl
     exact ⟨v,w',k2, .one (stepR_round_exit h1 hk ht' k1)⟩
  | goto l=>
   obtain ⟨t',ht',h⟩:=bind_some h
   exact go h hA' (.one (stepR_goto (gotoA_item ht')))
  | region rid ops draw=>
   cases draw with
   | false=>
    refine a2X (env0:=c.env) (K:=K) hG hf hb (fun env st G' a' w' k1 k2 k3 k4=>hK _ _ k1 G0 G' a' w' b cs fn hGl (hG.trans k2) k3 k4 hd hf hb hk (hrd.mono k2)) (wpIn_region ?_)
    have:=runOps_sound hS hC hI (hGl.mono hG) b.roundOf c.dfr ops.toList 0 rfl _ _ G a w (Gh.le.refl G) hR hA' h
    rw [List.range_eq_range']
    simpa using this
   | true=>
    simp only [cond_true] at h
    cases hdr:A.draws with
    | false=>simp [hdr] at h
    | true=>
     simp only [hdr,cond_true] at h
     refine a2X (env0:=c.env) (K:=K) hG hf hb (fun env st G' a' w' k1 k2 k3 k4=>hK _ _ k1 G0 G' a' w' b cs fn hGl (hG.trans k2) k3 k4 hd hf hb hk (hrd.mono k2)) (wpIn_region_any (hS.mixed hdr) ?_)
     exact drawLaw hS b.roundOf C _ rid ops _ _ r G G _ _ _ a w hC hI (hGl.mono hG) (Gh.le.refl G) hR hA' h
  | rangeFunc g ps x y=>
   simp only at h
   split at h
   ·cases h
   ·rename_i hr0
    obtain ⟨⟨o,st1⟩,hcall,h⟩:=bind_some h
    cases o with
    | pan v=>simp only [Out.on] at h; cases h
    | ret v=>
     simp only [Out.on] at h
     obtain ⟨⟨jump,st2⟩,hend,h⟩:=bind_some h
     simp only at h
     obtain ⟨gf,first,cap,hev,hne,hcl⟩:=rangeA_some hcall
     have hro:=none_of hr0
     have hg:=evA_VR hA' (hGl.mono hG) g
     rw [hev] at hg
     obtain ⟨gv,hgv⟩:∃ gv,gv = a.eval g:=⟨_,rfl⟩
     rw [←hgv] at hg
     obtain ⟨us,ys,rfl⟩:∃ us ys,gv = .func (.func gf) us ys:=by cases hg; exact ⟨_,_,rfl⟩
     obtain ⟨v1,v2⟩:=fn_VRs hg
     obtain ⟨lp,hlp⟩:∃ lp:a1o,lp = { state := .ready,pending:=none,fn:=c.f,env:=(A.note c.f).keepAt p c.env,params:=ps.toList,assign:=x,body:=y,path:=p }:=⟨_,rfl⟩
     rw [←hlp] at hcl
     obtain ⟨G1,e1,e2,e3,e4⟩:=rel_newloop hR (l:=lp) (tmps:=a.tmps) (by rw [hlp]; exact hA'.vals)
     obtain ⟨w1,hw1⟩:∃ w1,w1 = ((w.alloc (.deferred (some []))).alloc (.loop (lp.obj a.tmps w.heap.size))):=⟨_,rfl⟩
     rw [←hw1] at e4
     have henter:(Instr.enterLoop b.fn a.tmps ps x y b.roundOf).run P w = .ok (w.heap.size + 1,[{ target := .collected w.heap.size,args:=#[] }]) w1:=by
      rw [hro,run_enterLoop,hw1,hlp,hb]
      rfl
     have hargs:VRs G1 (first ++ [.yl c.st.length] ++ cap) (us ++ #[Value.func (.yield (w.heap.size + 1)) #[] #[]] ++ ys).toList:=by
      have h1:VRs G1 [AV.yl c.st.length] [.func (.yield (w.heap.size + 1)) #[] #[]]:=VRs.one (.yl _ _ e2)
      simpa using ((v1.mono e1).append h1).append (v2.mono e1)
     obtain ⟨fn',hfn',hbody⟩:=hI _ _ _ _ hcl hne
     obtain ⟨hp1,hp2⟩:=hS.fns gf fn' hfn'
     obtain ⟨cbody,hcb⟩:=Option.isSome_iff_exists.1 hbody
     have hres:(resolve a.eval (rangeCall g (w.heap.size + 1)) 0).run P w1 = .ok { target := .fn (.func gf) ys,args:=us ++ #[Value.func (.yield (w.heap.size + 1)) #[] #[]] } w1:=by
      have hc:∀ v,a.eval (.const v) = v:=fun v=>rfl
      simp [resolve,rangeCall,←hgv,hc,Deferred.ofValue]
     have hinv:(invoke (.fn (.func gf) ys) (us ++ #[Value.func (.yield (w.heap.size + 1)) #[] #[]])).run P w1 = .ok (.enter gf (us ++ #[Value.func (.yield (w.heap.size + 1)) #[] #[]] ++ ys)) w1:=by
      have h1 : fn'.name ≠ "runtime.NumGoroutine" := by simpa using hp2
      simp [invoke,callFunc,hp1,h1,hcb]
     have s1:=stepR_rangeFunc (P:=P) (b:=b) (a:=a) (k:=t.map AItem.item) (cs:=cs) (w:=w) henter hres hinv
     obtain ⟨e,w3,fr,k1,k2,k3,k4⟩:=hC.call gf _ _ _ _ G1 w1 _ hcl hne (hGl.mono (hG.trans e1)) e4 hargs (b.atR { a with defers:=[{ target := .collected w.heap.size,args:=#[] }] ++ a.defers } (.inRangeFunc (w.heap.size + 1) :: t.map AItem.item) :: cs)
     cases e with
     | outgrown=>exact k1.elim
     | panicked ch=>obtain ⟨_,_,_,_,_,hx,_⟩:=k1; cases hx
     | returned rv=>
      obtain ⟨G2,m1,m2,xx,_,_⟩:=k1
      unfold lpEnd at hend
      split at hend
      ·rename_i lp2 hlp2
       obtain ⟨own,hRo⟩:=m2
       obtain ⟨rr,tmps2,n1,n2,n3,n4,n5,n6⟩:=loop_at hRo hlp2 (m1.ρ _ _ _ e2)
       have hnb:lp2.state ≠ .busy:=by
        intro hb'
        rw [hb'] at hend
        cases hend
       have hend':jump = lp2.pending∧st2 = st1.set c.st.length (.loop { lp2 with state := .exhausted }):=by
        cases hs:lp2.state with
        | busy=>exact absurd hs hnb
        | _=>rw [hs] at hend; cases hend; exact ⟨rfl,rfl⟩
       obtain ⟨hjp,rfl⟩:=hend'
       have hR2:=n6 .exhausted lp2.pending
       have hrun:(Instr.endLoop (w.heap.size + 1)).run P w3 = .ok jump { w3 with heap:=w3.heap.setIfInBounds (w.heap.size + 1) (.loop (({ lp2 with state := .exhausted,pending:=lp2.pending }:a1o).obj tmps2 rr)) }:=by
        rw [hjp]
        simp [Instr.endLoop,Instr.getLoop,getObj,setObj,Sem.run,n1,a1o.obj,hnb]
       have s2:Steps P (lone (b.atR a (.code (.rangeFunc g ps x y) :: t.map AItem.item)) cs w) (lone (b.atR { a with defers:=[{ target := .collected w.heap.size,args:=#[] }] ++ a.defers } ((jump.map Item.code).toList ++ t.map AItem.item)) cs
         { w3 with heap:=w3.heap.setIfInBounds (w.heap.size + 1) (.loop (({ lp2 with state := .exhausted,pending:=lp2.pending }:a1o).obj tmps2 rr)) }):=by
        refine .head s1 (Steps.trans k2 (.head (step_leave_returned k4) ?_))
        rw [finish_atR_inRangeFunc]
        exact .one (stepR_endRangeFunc hrun)
       have hA2:a0C G2 ((A.note c.f).keepAt p c.env) (⟨.yl c.st.length,[]⟩ :: c.dfr) { a with defers:=[{ target := .collected w.heap.size,args:=#[] }] ++ a.defers }:=
        ⟨(hA'.vals.mono e1).mono m1, .mark (m1.ρ _ _ _ e3) ((hA'.dfr.mono e1).mono m1)⟩
       have hG2:=hG.trans (e1.trans m1)
       have hrd2:RdR G2 c.rd b.roundOf:=(hrd.mono e1).mono m1
       have hd2:c.rd ≠ none→((⟨.yl c.st.length,[]⟩:a3I) :: c.dfr) = []:=fun e=>absurd hr0 e
       cases jump with
       | none=>
        simp only [jOn] at h
        exact (hK _ _ h G0 G2 _ _ b cs fn hGl hG2 hR2 hA2 hd2 hf hb hk hrd2).of_steps s2
       | some code=>
        cases code with
        | ret=>
         simp only [jOn] at h
         exact fin (c':={ c with env:=(A.note c.f).keepAt p c.env,dfr:=⟨.yl c.st.length,[]⟩ :: c.dfr,st:=st1.set c.st.length (.loop { lp2 with state := .exhausted }) }) rfl hr0 hG2 hR2 hA2 h (s2.trans (.one (stepR_ret hro)))
        | exit id=>
         simp only [jOn] at h
         rcases a4y h with ⟨t',ht',h⟩ | ⟨ht',h⟩
         ·exact (hK _ _ h G0 G2 _ _ b cs fn hGl hG2 hR2 hA2 hd2 hf hb hk hrd2).of_steps (s2.trans (.one (stepR_exit ht')))
         ·cases h
        | _=>simp only [jOn] at h; cases h
      ·cases hend
  | refuse why=>cases h
theorem callIn_callK (A:P2) (n:Nat):a3n A (a0I A n):=by
 intro f args st r h hne
 unfold a0I at h
 obtain ⟨c,hc,h⟩:=bind_some h
 unfold entry at hc
 have hb:Nat.beq f rnd = false:=by
  cases hb:Nat.beq f rnd with
  | true=>exact absurd (Nat.eq_of_beq_eq_true hb) hne
  | false=>rfl
 rw [hb] at hc
 obtain ⟨fn,hfn,hc⟩:=bind_some hc
 obtain ⟨body,hb,hc⟩:=bind_some hc
 exact ⟨fn,hfn,by simp [hb]⟩
theorem a2b (hS:a1U P A w0) {n:Nat} (hK:RunOk P A w0 (run A n)):a2w P A w0 (a0I A n):=by
 refine ⟨fun f args st out st' G w vs h hne hGl hR hv cs=>?_,fun id args st out st' G w lb vs h hGl hR hl hv=>?_⟩
 ·unfold a0I at h
  obtain ⟨c,hc,h1⟩:=bind_some h
  obtain ⟨r,hr,h2⟩:=bind_some h1
  clear h h1
  unfold entry at hc
  have hbq:Nat.beq f rnd = false:=by
   cases hb:Nat.beq f rnd with
   | true=>exact absurd (Nat.eq_of_beq_eq_true hb) hne
   | false=>rfl
  rw [hbq] at hc
  obtain ⟨fn,hfn,hc1⟩:=bind_some hc
  obtain ⟨body,hbody,hc2⟩:=bind_some hc1
  clear hc hc1
  cases hc2
  obtain ⟨hf,_⟩:=hS.fns f fn hfn
  let b:Frame:={ (default:Frame) with fn:=f,kind := .normal }
  let a:Act:={ tmps:=vs ++ Array.replicate (fn.ntmps - vs.size) undef,defers:=[] }
  have hlen:args.length = vs.size:=by simpa using hv.len
  have hA:a0C G (args ++ List.replicate (fn.ntmps - args.length) (.tup [])) [] a:=by
   refine ⟨?_, .nil⟩
   show VRs G _ (vs ++ Array.replicate (fn.ntmps - vs.size) undef).toList
   rw [Array.toList_append,Array.toList_replicate,hlen]
   refine hv.append ⟨by simp,fun j x y hx hy=>?_⟩
   rw [List.getElem?_replicate] at hx hy
   split at hx
   ·cases hx
    split at hy
    ·cases hy; exact a1x G
    ·rename_i h1 h2; exact absurd h1 h2
   ·cases hx
  have henter:Frame.enter P f vs .normal = b.atR a [.code body]:=by simp [Frame.enter,Frame.atR,hf,hbody,b,a]; rfl
  rw [henter]
  obtain ⟨e,w',fr,k1,k2,k3,k4⟩:=hK _ r hr G G a w b cs fn hGl (Gh.le.refl G) hR hA (fun h=>absurd rfl h) hf rfl rfl trivial
  have k5:=gcK_sound (m:=A.mode f) hR k1
  cases hgc:gcK (A.mode f) st (r.out,r.st) with
  | mk o s=>
   rw [hgc] at h2 k5
   cases h2
   refine ⟨e,w',fr,k5,?_,k3,k4⟩
   cases e with
   | outgrown=>exact k1.elim
   | returned v=>exact k2
   | panicked ch=>exact k2
 ·unfold a0I at h
  obtain ⟨c,hc,h1⟩:=bind_some h
  obtain ⟨r,hr,h2⟩:=bind_some h1
  clear h h1
  have hbq:Nat.beq rnd rnd = true:=by decide
  unfold entry at hc
  rw [hbq] at hc
  simp only [cond_true,entryR] at hc
  split at hc
  ·rename_i lp hlp
   obtain ⟨fn,hfn,hc⟩:=bind_some hc
   obtain ⟨hf,_⟩:=hS.fns lp.fn fn hfn
   cases hln:Nat.beq args.length lp.params.length with
   | false=>rw [hln] at hc; cases hc
   | true=>
    rw [hln] at hc
    cases hc
    have hlen:=Nat.eq_of_beq_eq_true hln
    have hR0:=hR
    obtain ⟨own,hRo⟩:=hR
    obtain ⟨rr,tmps,n1,n2,n3,n4,n5,n6⟩:=loop_at hRo hlp hl
    have hvl:args.length = vs.size:=by simpa using hv.len
    have hsz:vs.size = lp.params.length:=by omega
    have hyield:(Instr.yield lb vs).run P w = .ok (.round lb lp.fn ((lp.params.toArray.zip vs).foldl (fun tmps (t,a)=>tmps.setIfInBounds t a) tmps) lp.assign lp.body) w:=by
     simp [Instr.yield,Instr.getLoop,getObj,Sem.run,n1,a1o.obj,hsz]
    rw [hyield]
    refine ⟨trivial,fun cfr cs _=>?_⟩
    let b:Frame:={ (default:Frame) with fn:=lp.fn,kind := .normal,roundOf:=some lb }
    let a:Act:={ tmps:=(lp.params.toArray.zip vs).foldl (fun tmps (t,a)=>tmps.setIfInBounds t a) tmps,defers:=[] }
    have hA:a0C G (a3B lp.env lp.params args) [] a:=by
     refine ⟨?_, .nil⟩
     show VRs G _ ((lp.params.toArray.zip vs).foldl (fun tmps (t,a)=>tmps.setIfInBounds t a) tmps).toList
     rw [←Array.foldl_toList,Array.toList_zip,setAll_toList]
     exact setAll_VRs n2 hv
    have hround:Frame.round lb lp.fn ((lp.params.toArray.zip vs).foldl (fun tmps (t,a)=>tmps.setIfInBounds t a) tmps) lp.assign lp.body .normal = b.atR a [.code lp.assign, .beginRound, .code lp.body]:=by
     simp [Frame.round,Frame.atR,b,a]
    rw [hround]
    obtain ⟨v,w',k1,k2⟩:=hK _ r hr G G a w b (cfr :: cs) fn hGl (Gh.le.refl G) hR0 hA (fun _=>rfl) hf rfl rfl hl cfr cs rfl
    have k5:=gcK_sound (m:=A.mode rnd) hR0 k1
    cases hgc:gcK (A.mode rnd) st (r.out,r.st) with
    | mk o s=>
     rw [hgc] at h2 k5
     cases h2
     exact ⟨.returned v,w',k5,stepsIn_wide.2 k2⟩
  ·cases hc
theorem run_sound (hS:a1U P A w0):∀ n,RunOk P A w0 (run A n):=by
 intro n
 induction n with
 | zero=>intro c r h; cases h
 | succ n ih=>exact stepF_sound hS (a2b hS ih) (callIn_callK A n) ih
theorem CallR_sound (hS:a1U P A w0):a2w P A w0 (O1 A):=by
 refine ⟨fun f args st out st' G w vs h=>?_,fun id args st out st' G w b vs h=>?_⟩
 ·obtain ⟨k,hk⟩:=a0s A h
  exact (a2b hS (run_sound hS k)).call f args st out st' G w vs hk
 ·obtain ⟨k,hk⟩:=a0s A h
  exact (a2b hS (run_sound hS k)).round id args st out st' G w b vs hk
end
end Go.St
namespace Go.St
open Go.RowKit
set_option linter.unusedVariables false
set_option linter.unusedSimpArgs false
def Gh.start (W:World):Gh where
 ρ:=fun _ _=>none
 H:=fun b=>match W.heap[b]? with | some (.cells arr _ _)=>some arr.toList | _=>none
 Z:=fun b=>match W.heap[b]? with | some (.cells arr _ _)=>some arr.size | _=>none
theorem rel_start (T e:TypeId) (W:World):Rel T e W (Gh.start W) [] W:=by
 refine ⟨fun _=>none,Below.refl _ _,fun b l hb=>?_,fun b n hn=>?_,fun i g x hx=>(by cases hx),fun b i hb=>(by cases hb),fun i ob hi=>by simp at hi⟩
 ·simp only [Gh.start] at hb
  split at hb
  ·rename_i arr t fr h; cases hb; exact ⟨arr,t,fr,[],h,by simp⟩
  ·cases hb
 ·simp only [Gh.start] at hn
  split at hn
  ·rename_i arr t fr h; cases hn; exact ⟨arr,t,fr,h,rfl⟩
  ·cases hn
theorem top_ret {P:Program} {A:P2} {W:World} (hS:a1U P A W) {f:FuncId} {args:List AV} {vs:Array Value} {x:AV} {st':Sto} (h:O1 A f args [] = some (.ret x,st')) (hGl:a04 A (Gh.start W)) (hv:VRs (Gh.start W) args vs.toList) :
  Calls P f vs W fun e W'=>∃ v G,e = .returned v∧VR G x v∧Below W.heap.size W W':=by
 have hne:f ≠ rnd:=by
  rintro rfl
  obtain ⟨k,hk⟩:=a0s A h
  unfold a0I at hk
  obtain ⟨c,hc,_⟩:=bind_some hk
  have hbq:Nat.beq rnd rnd = true:=by decide
  unfold entry at hc
  rw [hbq] at hc
  simp only [cond_true] at hc
  unfold entryR at hc
  split at hc
  ·simp at hc
  ·cases hc
 refine Calls.mono ((CallR_sound hS).call f args [] (.ret x) st' (Gh.start W) W vs h hne hGl (rel_start _ _ W) hv) fun e w' he=>?_
 cases e with
 | returned v=>
  obtain ⟨G',k1,⟨own,k2⟩,y,k3,k4⟩:=he
  cases k3
  exact ⟨v,G',rfl,k4,k2.below⟩
 | panicked ch=>obtain ⟨_,_,_,y,v,k3,_⟩:=he; cases k3
 | outgrown=>exact he.elim
end Go.St
namespace Go.St
set_option linter.unusedVariables false
set_option linter.unusedSimpArgs false
structure O5 (n:Nat) (st st':Sto):Prop where
 len:st.length ≤ st'.length
 at_:∀ i,i < n→st'[i]? = st[i]?
theorem O5.refl (n:Nat) (st:Sto):O5 n st st:=⟨Nat.le_refl _,fun _ _=>rfl⟩
theorem O5.trans {n:Nat} {a b c:Sto} (h:O5 n a b) (k:O5 n b c):O5 n a c:=⟨Nat.le_trans h.len k.len,fun i hi=>(k.at_ i hi).trans (h.at_ i hi)⟩
theorem O5.app {n:Nat} {st l:Sto} (h:n ≤ st.length):O5 n st (st ++ l):=⟨by simp,fun i hi=>List.getElem?_append_left (by omega)⟩
theorem O5.set {n:Nat} {st:Sto} {j:Nat} {o:Ob} (h:n ≤ j):O5 n st (st.set j o):=⟨by simp,fun i hi=>List.getElem?_set_ne (by omega)⟩
theorem gc_keep {x:AV} {st st':Sto} (hs:x.strip st.length = x) (ho:x.old st.length = true) (hk:O5 st.length st st'):gc st (.ret x,st') = (.ret x,st):=by
 have hst:st'.take st.length = st:=by
  apply List.ext_getElem?
  intro i
  rw [List.getElem?_take]
  split
  ·rename_i hi; exact hk.at_ i hi
  ·rename_i hi; rw [List.getElem?_eq_none (by omega)]
 unfold gc
 rw [if_pos ⟨by simp only [Out.val,hs]; exact ho,hk.len,fun i hi => .inl (hk.at_ i hi)⟩]
 simp only [Out.map,hs,hst]
theorem P9 {j n:Nat} (h:j < n):idx (j:Int) n = some j:=by
 unfold idx
 rw [if_pos (by omega)]
 simp
theorem wrap64 {x:Int} (h0:0 ≤ x) (h:x < 9223372036854775808):IntKind.wrap .i64 x = x:=by
 simp [IntKind.wrap,IntKind.bits,IntKind.signed]
 omega
end Go.St
namespace Go.St
open Go.RowKit
set_option linter.unusedVariables false
set_option linter.unusedSimpArgs false
def ptrAV (m:List AV):AV:=match m with
 | [] => .any
 | m => .ip m
def rowAV (ms:List (List AV)):AV:=if ms.length = 0∨ms.flatten.length ≠ 0 then .is ms.flatten ms.length .no else .any
def avD (A:P2) {H:Type}:Nat→TypeId→DataW H→Option (List AV)
 | 0,_,_=>none
 | n + 1,t,d=>(P0 t A.tab).bind fun td=>match td.k,d with
  | .bool, .lit (.bool b)=>some [.bool b]
  | .int k, .lit (.int k' x)=>if k' = k∧(Lit.int k x).wf = true then some [.int k x] else none
  | .str, .lit (.string s)=>if s.length ≤ maxLen then some [.str ⟨s.toArray⟩] else none
  | .ptr _, .nil=>some [.nilp]
  | .ptr e, .ptr d=>(avD A n e d).map fun m=>[ptrAV m]
  | .slice _, .nil=>some [.nils]
  | .slice e, .slice ds _=>if ds.length ≤ maxLen then (ds.mapM (avD A n e)).map fun ms=>[rowAV ms] else none
  | .struct fs, .agg ds=>if fs.length = ds.length then ((fs.zip ds).mapM fun x=>avD A n x.1.2 x.2).map List.flatten else none
  | .arr k e, .agg ds=>if ds.length = k then (ds.mapM (avD A n e)).map List.flatten else none
  | .iface _, .nil=>some [.nili]
  | .map _ _, .nil=>some [.nilm]
  | .func, .nil=>some [.nilfn]
  | _,_=>some [.any]
def offB (A:P2) (ts:List TypeId):Nat→List (Nat × TypeId)→Nat→Bool
 | o,[],n=>o == n
 | o,(o',t) :: r,n=>o == o' && ts.contains t && match P0 t A.tab with
  | some td=>offB A ts (o + td.size) r n
  | none=>false
def a1S (A:P2) (ts:List TypeId):Bool:=ts.all fun t=>match P0 t A.tab with
 | none=>false
 | some td=>match td.k with
  | .ptr e | .slice e=>ts.contains e
  | .arr n e=>ts.contains e && (match P0 e A.tab with | some te=>td.size == n * te.size | none=>false)
  | .struct fs=>offB A ts 0 fs td.size
  | _=>true
theorem cell?_some {w:World} {a:Addr} {v:Value} (h:w.cell? a = some v):∃ arr t fr,w.heap[a.block]? = some (.cells arr t fr)∧a.spot = none∧arr[a.off]? = some v:=by
 unfold World.cell? at h
 split at h
 ·rename_i c t fr hc
  split at h
  ·cases h
  ·rename_i hs
   exact ⟨c,t,fr,hc,by simpa using hs,h⟩
 ·cases h
theorem cells?_at {w:World} {base n:Nat} {a:Addr} {cs:List Value} (h:w.cells? base a n = some cs):cs.length = n∧∀ k v,cs[k]? = some v→w.cell? (a.add k) = some v:=by
 unfold World.cells? at h
 split at h
 ·have hl:=Lib.mapM_length h
  simp only [List.length_range] at hl
  refine ⟨hl,fun k v hv=>?_⟩
  have hk:k < n:=by rw [←hl]; exact (List.getElem?_eq_some_iff.1 hv).1
  obtain ⟨b,hb,hf⟩:=Lib.mapM_at h k k (by simp [hk])
  rw [hb] at hv; cases hv
  exact hf
 ·cases h
theorem a1e {α β:Type} {f:α→Option β} (P:Nat→β→Prop):∀ (l:List α) (m:Nat),(∀ i a,l[i]? = some a→∃ b,f a = some b∧P (m + i) b)→∃ r,l.mapM f = some r∧r.length = l.length∧∀ i b,r[i]? = some b→P (m + i) b:=by
 intro l
 induction l with
 | nil=>exact fun m _=>⟨[],rfl,rfl,fun i b h=>by simp at h⟩
 | cons x l ih=>
  intro m h
  obtain ⟨b,hb,hP⟩:=h 0 x rfl
  obtain ⟨r,hr,hl,hp⟩:=ih (m + 1) (fun i a ha=>by
   obtain ⟨b,h1,h2⟩:=h (i + 1) a (by simpa using ha)
   exact ⟨b,h1,by rw [show m + 1 + i = m + (i + 1) by omega]; exact h2⟩)
  refine ⟨b :: r,by simp [hb,hr],by simp [hl],fun i b' hb'=>?_⟩
  cases i with
  | zero=>simp only [List.getElem?_cons_zero,Option.some.injEq] at hb'; subst hb'; exact hP
  | succ i=>
   have:=hp i b' (by simpa using hb')
   rwa [show m + (i + 1) = m + 1 + i by omega]
theorem a1Q {s:Nat}:∀ {ms:List (List AV)},(∀ (i:Nat) (m:List AV),ms[i]? = some m→m.length = s)→ms.flatten.length = ms.length * s:=by
 intro ms
 induction ms with
 | nil=>simp
 | cons m r ih=>
  intro h
  have h0:=h 0 m rfl
  have:=ih (fun i m hm=>h (i + 1) m (by simpa using hm))
  simp only [List.flatten_cons,List.length_append,List.length_cons,h0,this,Nat.add_mul,Nat.one_mul]
  omega
theorem flat_at {s:Nat} {Q:Nat→AV→Prop}:∀ {ms:List (List AV)} {o:Nat},(∀ (i:Nat) (m:List AV),ms[i]? = some m→m.length = s∧∀ (k:Nat) (a:AV),m[k]? = some a→Q (o + i * s + k) a)→∀ (j:Nat) (a:AV),ms.flatten[j]? = some a→Q (o + j) a:=by
 intro ms
 induction ms with
 | nil=>intro o _ j a ha; simp at ha
 | cons m r ih=>
  intro o h j a ha
  obtain ⟨h0,h1⟩:=h 0 m rfl
  simp only [List.flatten_cons] at ha
  by_cases hj:j < m.length
  ·rw [List.getElem?_append_left hj] at ha
   have:=h1 j a ha
   simpa using this
  ·rw [List.getElem?_append_right (by omega)] at ha
   have:=ih (o:=o + s) (fun i m' hm'=>?_) (j - m.length) a ha
   ·rwa [show o + s + (j - m.length) = o + j by omega] at this
   ·obtain ⟨h2,h3⟩:=h (i + 1) m' (by simpa using hm')
    refine ⟨h2,fun k a ha=>?_⟩
    have:=h3 k a ha
    rwa [show o + (i + 1) * s + k = o + s + i * s + k by rw [Nat.add_mul,Nat.one_mul]; omega] at this
theorem start_H {W:World} {b:Nat} {arr:Array Value} {t:TypeId} {fr:Nat × Nat} (h:W.heap[b]? = some (.cells arr t fr)):(Gh.start W).H b = some arr.toList:=by simp [Gh.start,h]
theorem VRs.flat {G:Gh}:∀ {ms:List (List AV)} {vss:List (List Value)},ms.length = vss.length→(∀ (i:Nat) (m:List AV) (vs:List Value),ms[i]? = some m→vss[i]? = some vs→VRs G m vs)→VRs G ms.flatten vss.flatten:=by
 intro ms
 induction ms with
 | nil=>intro vss hl _; cases vss with
  | nil=>exact VRs.nil G
  | cons=>simp at hl
 | cons m r ih=>
  intro vss hl h
  cases vss with
  | nil=>simp at hl
  | cons vs rs=>exact (h 0 m vs rfl rfl).append (ih (by simpa using hl) fun i m' vs' hm hv=>h (i + 1) m' vs' (by simpa using hm) (by simpa using hv))
theorem offB_cut {A:P2} {ts:List TypeId} (sz:TypeId→Nat) (hsz:∀ t td,t ∈ ts→P0 t A.tab = some td→sz t = td.size) {cs:List Value}:∀ {fs:List (Nat × TypeId)} {o n:Nat},offB A ts o fs n = true→cs.length = n →
  (fs.map fun f=>(cs.drop f.1).take (sz f.2)).flatten = cs.drop o∧(∀ f ∈ fs,f.2 ∈ ts)∧o ≤ n:=by
 intro fs
 induction fs with
 | nil=>
  intro o n h hl
  simp only [offB,beq_iff_eq] at h
  refine ⟨?_,by simp,by omega⟩
  rw [List.drop_eq_nil_of_le (by omega)]
  rfl
 | cons f r ih=>
  obtain ⟨o',t⟩:=f
  intro o n h hl
  simp only [offB,Bool.and_eq_true,beq_iff_eq] at h
  obtain ⟨⟨rfl,hm⟩,h⟩:=h
  have hm':t ∈ ts:=by simpa using hm
  cases ht:P0 t A.tab with
  | none=>simp [ht] at h
  | some td=>
   simp only [ht] at h
   obtain ⟨h1,h2,h3⟩:=ih h hl
   refine ⟨?_,fun f hf=>?_,by omega⟩
   ·simp only [List.map_cons,List.flatten_cons,h1,hsz t td hm' ht]
    rw [←List.drop_drop]
    exact List.take_append_drop _ _
   ·rcases List.mem_cons.1 hf with rfl | hf
    ·exact hm'
    ·exact h2 f hf
section
variable {P:Program} {A:P2}
theorem a1K {ts:List TypeId} (hc:a1S A ts = true) {t:TypeId} (ht:t ∈ ts):∃ td,P0 t A.tab = some td∧match td.k with
  | .ptr e | .slice e=>e ∈ ts
  | .arr n e=>e ∈ ts∧∃ te,P0 e A.tab = some te∧td.size = n * te.size
  | .struct fs=>offB A ts 0 fs td.size = true
  | _=>True:=by
 unfold a1S at hc
 rw [List.all_eq_true] at hc
 have:=hc t ht
 cases h:P0 t A.tab with
 | none=>simp [h] at this
 | some td=>
  refine ⟨td,rfl,?_⟩
  simp only [h] at this
  split at this
  ·simpa using this
  ·simpa using this
  ·rename_i n e hk
   simp only [Bool.and_eq_true] at this
   refine ⟨by simpa using this.1,?_⟩
   cases he:P0 e A.tab with
   | none=>simp [he] at this
   | some te=>simp only [he,beq_iff_eq] at this; exact ⟨te,rfl,this.2⟩
  ·exact this
  ·trivial
theorem a0V (hT:X1 P A) {t:TypeId} {td:TD} (h:P0 t A.tab = some td):P.cellsOf t = td.size:=by
 obtain ⟨i,d,hi,_,hs,_⟩:=(hT t td h).ok
 simp [Program.cellsOf,hi,hs]
theorem a3f:∀ {fs:List (Nat × TypeId)} {l:List Field},fieldsB fs l = true→fs = l.map fun f=>(f.offset,f.type):=by
 intro fs
 induction fs with
 | nil=>intro l h; cases l with
  | nil=>rfl
  | cons=>simp [fieldsB] at h
 | cons x r ih=>
  intro l h
  obtain ⟨o,t⟩:=x
  cases l with
  | nil=>simp [fieldsB] at h
  | cons f l=>
   simp only [fieldsB,Bool.and_eq_true,beq_iff_eq] at h
   rw [List.map_cons,←ih h.2,h.1.1,h.1.2]
theorem VRs.single {G:Gh} {a:AV} {v:Value} (h:VR G a v) (h1:v.oneCell' = true):VRs G [a] [v]∧∀ v' ∈ [v],v'.oneCell' = true:=⟨VRs.one h,by simpa using h1⟩
set_option maxHeartbeats 4000000 in
theorem trod_av (hT:X1 P A) {ts:List TypeId} (hc:a1S A ts = true) {H:Type} {enc:TypeId × Value→H} {w:World} {base:Nat} {sp:Nat→Bool} {held:Bool} :
  ∀ (n:Nat) (t:TypeId) (cs:List Value) (d:DataW H) (p:List MemPlace),t ∈ ts→DataW.trod enc P w base sp held n t cs = some (d,p) →
   ∃ l,avD A n t d = some l∧VRs (Gh.start w) l cs∧∀ v ∈ cs,v.oneCell' = true:=by
 intro n
 induction n with
 | zero=>intro t cs d p _ h; simp [DataW.trod] at h
 | succ n ih=>
  intro t cs d p ht h
  obtain ⟨td,htd,hcl⟩:=a1K hc ht
  obtain ⟨i,ds,hi,hd,hs,_,hk,_⟩:=(hT t td htd).ok
  have hsz:=a0V hT htd
  simp only [DataW.trod,hd] at h
  simp only [avD,htd,Option.bind_some]
  split at h
  ·-- bool
   rename_i b he
   cases he
   cases h
   cases hk':td.k <;> simp [hk',Q0] at hk
   exact ⟨_,rfl,VRs.single (.bool b) rfl⟩
  ·rename_i k k' m he
   cases he
   split at h
   ·rename_i hw
    cases h
    cases hk':td.k <;> simp [hk',Q0] at hk
    obtain ⟨rfl,hw⟩:=hw
    subst hk
    simp only [hw,and_self,if_true]
    exact ⟨_,rfl,VRs.single (.int _ _) rfl⟩
   ·cases h
  ·rename_i k k' b he
   cases he
   split at h
   ·cases h
    cases hk':td.k <;> simp [hk',Q0] at hk
    exact ⟨_,rfl,VRs.single (.any _) rfl⟩
   ·cases h
  ·rename_i s he
   cases he
   split at h
   ·rename_i hl
    cases h
    cases hk':td.k <;> simp [hk',Q0] at hk
    have hl':s.data.toList.length ≤ maxLen:=by simpa using hl
    simp only [hl',if_true]
    exact ⟨_,rfl,VRs.single (by simpa using VR.str s) rfl⟩
   ·cases h
  ·rename_i e he
   cases he
   cases h
   cases hk':td.k <;> simp [hk',Q0] at hk
   exact ⟨_,rfl,VRs.single .nilp rfl⟩
  ·-- a pointer
   rename_i e a he
   cases he
   cases hk':td.k <;> simp [hk',Q0] at hk
   rename_i e'
   subst hk
   rw [hk'] at hcl
   simp only at hcl
   obtain ⟨x,hx,hxe⟩:=Option.map_eq_some_iff.1 h
   obtain ⟨cs',hcs,htr⟩:=Option.bind_eq_some_iff.1 hx
   cases hxe
   obtain ⟨m,hm,hv,h1⟩:=ih e' cs' x.1 x.2 hcl htr
   obtain ⟨hlen,hcell⟩:=cells?_at hcs
   simp only [hm,Option.map_some]
   refine ⟨_,rfl,VRs.single ?_ rfl⟩
   cases m with
   | nil=>exact .any _
   | cons m0 mr=>
    obtain ⟨v0,hv0,_⟩:=hv.get (j:=0) (a:=m0) rfl
    obtain ⟨arr,tt,fr,hb,hsp,_⟩:=cell?_some (hcell 0 v0 hv0)
    have ha:a = ⟨a.block,a.off,none⟩:=by
     obtain ⟨ab,ao,asp⟩:=a
     simp [Addr.add] at hsp
     simp [hsp]
    have hb':w.heap[a.block]? = some (.cells arr tt fr):=hb
    have hget:∀ k v,cs'[k]? = some v→arr[a.off + k]? = some v:=by
     intro k v hk2
     have:=hcell k v hk2
     rw [ha] at this
     rw [add_lit,a0j hb'] at this
     exact this
    rw [ha]
    refine .ip _ a.block a.off arr.toList (start_H hb') ?_ fun j x v hj hv2=>?_
    ·have hlast:(m0 :: mr).length - 1 < cs'.length:=by rw [←hv.len]; simp
     have:=hget _ _ (List.getElem?_eq_getElem hlast)
     have:=(Array.getElem?_eq_some_iff.1 this).1
     simp at this ⊢
     omega
    ·obtain ⟨v',hv',hvr⟩:=hv.get hj
     have:=hget j v' hv'
     rw [Array.getElem?_toList] at hv2
     rw [this] at hv2
     cases hv2
     exact hvr
  ·rename_i e he
   cases he
   cases h
   cases hk':td.k <;> simp [hk',Q0] at hk
   exact ⟨_,rfl,VRs.single .nils rfl⟩
  ·-- a slice
   rename_i e a len cap he
   cases he
   cases hk':td.k <;> simp [hk',Q0] at hk
   rename_i e'
   subst hk
   rw [hk'] at hcl
   simp only at hcl
   split at h
   ·rename_i hcap
    obtain ⟨els,hels,h⟩:=Option.bind_eq_some_iff.1 h
    obtain ⟨rest,_,h⟩:=Option.map_eq_some_iff.1 h
    cases h
    have hll:els.length = len:=by have:=Lib.mapM_length hels; simpa using this
    simp only [List.length_map,hll,Nat.le_trans hcap.2.1 hcap.2.2,if_true]
    obtain ⟨te,hte,_⟩:=a1K hc hcl
    have hes:=a0V hT hte
    have key:∀ i x,els[i]? = some x→∃ m,avD A n e' x.1 = some m∧∃ cs',w.cells? base (a.add (i * P.cellsOf e')) (P.cellsOf e') = some cs'∧VRs (Gh.start w) m cs'∧∀ v ∈ cs',v.oneCell' = true:=by
     intro i x hx
     have hil:i < len:=by rw [←hll]; exact (List.getElem?_eq_some_iff.1 hx).1
     obtain ⟨b,hb,hf⟩:=Lib.mapM_at hels i i (by simp [hil])
     rw [hb] at hx; cases hx
     obtain ⟨cs',hcs,htr⟩:=Option.bind_eq_some_iff.1 hf
     obtain ⟨m,h1,h2,h3⟩:=ih e' cs' _ _ hcl htr
     exact ⟨m,h1,cs',hcs,h2,h3⟩
    obtain ⟨ms,hms,hml,hmp⟩:=a1e (f:=avD A n e') (fun i m=>∃ cs',w.cells? base (a.add (i * P.cellsOf e')) (P.cellsOf e') = some cs'∧VRs (Gh.start w) m cs'∧∀ v ∈ cs',v.oneCell' = true) (els.map (·.1)) 0 (fun i d hd=>by
     rw [List.getElem?_map] at hd
     obtain ⟨x,hx,rfl⟩:=Option.map_eq_some_iff.1 hd
     obtain ⟨m,h1,h2⟩:=key i x hx
     exact ⟨m,h1,by simpa using h2⟩)
    simp only [Nat.zero_add] at hmp
    have hmlen:ms.length = len:=by rw [hml]; simp [hll]
    simp only [hms,Option.map_some]
    refine ⟨_,rfl,VRs.single ?_ rfl⟩
    have hfl:ms.flatten.length = ms.length * P.cellsOf e':=a1Q fun i m hm=>by
     obtain ⟨cs',hcs,hv,_⟩:=hmp i m hm
     rw [hv.len,(cells?_at hcs).1]
    unfold rowAV
    split
    ·rename_i hor
     by_cases h0:ms.length = 0
     ·have:ms = []:=List.eq_nil_of_length_eq_zero h0
      subst this
      simp only [List.length_nil] at hmlen
      subst hmlen
      exact .is0 a cap
     ·have hpos:0 < P.cellsOf e':=by
       rcases Nat.eq_zero_or_pos (P.cellsOf e') with hz | hz
       ·rw [hz,Nat.mul_zero] at hfl
        rcases hor with hor | hor
        ·exact absurd hor h0
        ·exact absurd hfl hor
       ·exact hz
      have hget:∀ (i:Nat) (m:List AV) (k:Nat),ms[i]? = some m→k < m.length→∃ v,VRs (Gh.start w) m ((w.cells? base (a.add (i * P.cellsOf e')) (P.cellsOf e')).getD [])∧((w.cells? base (a.add (i * P.cellsOf e')) (P.cellsOf e')).getD [])[k]? = some v∧v.oneCell' = true∧w.cell? ((a.add (i * P.cellsOf e')).add k) = some v:=by
       intro i m k hm hk2
       obtain ⟨cs',hcs,hv,h1⟩:=hmp i m hm
       rw [hcs]
       simp only [Option.getD_some]
       have hkl:k < cs'.length:=by rw [←hv.len]; exact hk2
       exact ⟨cs'[k],hv,List.getElem?_eq_getElem hkl,h1 _ (List.getElem_mem hkl),(cells?_at hcs).2 k _ (List.getElem?_eq_getElem hkl)⟩
      have hm0:0 < ms.length:=by omega
      have hmlen0:∀ (i:Nat) (m:List AV),ms[i]? = some m→m.length = P.cellsOf e':=fun i m hm=>by
       obtain ⟨cs',hcs,hv,_⟩:=hmp i m hm
       rw [hv.len,(cells?_at hcs).1]
      obtain ⟨v0,_,_,_,hc0⟩:=hget 0 ms[0] 0 (List.getElem?_eq_getElem hm0) (by rw [hmlen0 0 _ (List.getElem?_eq_getElem hm0)]; exact hpos)
      obtain ⟨arr,tt,fr,hb,hsp,_⟩:=cell?_some hc0
      have ha:a = ⟨a.block,a.off,none⟩:=by
       obtain ⟨ab,ao,asp⟩:=a
       simp [Addr.add] at hsp
       simp [hsp]
      have hb':w.heap[a.block]? = some (.cells arr tt fr):=by rw [←hb]; simp [Addr.add]; done
      have hcell:∀ i k v,w.cell? ((a.add (i * P.cellsOf e')).add k) = some v→arr[a.off + i * P.cellsOf e' + k]? = some v:=by
       intro i k v hv
       rw [ha] at hv
       rw [add_lit,add_lit,a0j hb'] at hv
       exact hv
      rw [ha,←hmlen]
      have hQ:∀ (j:Nat) (x:AV),ms.flatten[j]? = some x→∃ v,arr[a.off + j]? = some v∧VR (Gh.start w) x v∧v.oneCell' = true:=by
       refine flat_at (s:=P.cellsOf e') (Q:=fun j x=>∃ v,arr[j]? = some v∧VR (Gh.start w) x v∧v.oneCell' = true) fun i m hm=>⟨hmlen0 i m hm,fun k x hx=>?_⟩
       obtain ⟨v,h1,h2,h3,h4⟩:=hget i m k hm (List.getElem?_eq_some_iff.1 hx).1
       exact ⟨v,hcell i k v h4,h1.at_ k x v hx h2,h3⟩
      refine .is _ _ .no a.block a.off cap arr.toList (start_H hb') ?_ (by rw [hmlen]; exact hcap.2.1) trivial (fun j x v hj hv2=>?_) (fun j v hj hv2=>?_)
      ·have hlast:ms.flatten.length - 1 < ms.flatten.length:=by rw [hfl]; have:=Nat.mul_pos hm0 hpos; omega
       obtain ⟨v,h1,_⟩:=hQ _ _ (List.getElem?_eq_getElem hlast)
       have:=(Array.getElem?_eq_some_iff.1 h1).1
       simp only [Array.length_toList]
       omega
      ·obtain ⟨v',h1,h2,_⟩:=hQ j x hj
       rw [Array.getElem?_toList,h1] at hv2
       cases hv2
       exact h2
      ·obtain ⟨v',h1,_,h3⟩:=hQ j _ (List.getElem?_eq_getElem hj)
       rw [Array.getElem?_toList,h1] at hv2
       cases hv2
       exact h3
    ·exact .any _
   ·cases h
  ·-- a struct
   rename_i cs _ _ fs he
   cases he
   cases hk':td.k <;> simp [hk',Q0] at hk
   rename_i fs'
   rw [hk'] at hcl
   simp only at hcl
   split at h
   ·rename_i hlen
    obtain ⟨xs,hxs,h⟩:=Option.map_eq_some_iff.1 h
    cases h
    have hfs:=a3f hk
    have hxl:=Lib.mapM_length hxs
    obtain ⟨hcut,hmem,_⟩:=offB_cut (A:=A) (ts:=ts) P.cellsOf (fun t td _ h=>a0V hT h) (cs:=cs) hcl (by rw [hlen,hsz])
    have hfl:fs'.length = (xs.map (·.1)).length:=by rw [hfs,List.length_map,List.length_map,hxl]
    simp only [hfl,if_true]
    obtain ⟨ms,hms,hml,hmp⟩:=a1e (f:=fun x:(Nat × TypeId) × DataW H=>avD A n x.1.2 x.2) (fun i m=>∃ f,fs'[i]? = some f∧VRs (Gh.start w) m ((cs.drop f.1).take (P.cellsOf f.2))∧∀ v ∈ (cs.drop f.1).take (P.cellsOf f.2),v.oneCell' = true) (fs'.zip (xs.map (·.1))) 0 (fun i x hx=>by
     rw [List.getElem?_zip_eq_some] at hx
     obtain ⟨hx1,hx2⟩:=hx
     rw [List.getElem?_map] at hx2
     obtain ⟨y,hy,hy2⟩:=Option.map_eq_some_iff.1 hx2
     rw [hfs,List.getElem?_map] at hx1
     obtain ⟨f,hf,hf2⟩:=Option.map_eq_some_iff.1 hx1
     obtain ⟨b,hb,htr⟩:=Lib.mapM_at hxs i f hf
     rw [hb] at hy; cases hy
     have hft:f.type ∈ ts:=hmem (f.offset,f.type) (by rw [hfs]; exact List.mem_map.2 ⟨f,List.mem_of_getElem? hf,rfl⟩)
     obtain ⟨m,h1,h2,h3⟩:=ih f.type _ _ _ hft htr
     rw [←hy2,←hf2]
     refine ⟨m,h1,(f.offset,f.type),?_,h2,h3⟩
     rw [hfs,List.getElem?_map,Nat.zero_add,hf]
     rfl)
    simp only [Nat.zero_add] at hmp
    simp only [hms,Option.map_some]
    have hmlen:ms.length = fs'.length:=by
     rw [hml,List.length_zip,←hfl,Nat.min_self]
    refine ⟨_,rfl,?_,?_⟩
    ·rw [←List.drop_zero (l:=cs),←hcut]
     refine VRs.flat (by rw [hmlen,List.length_map]) fun i m vs hm hvs=>?_
     obtain ⟨f,hf,hv,_⟩:=hmp i m hm
     rw [List.getElem?_map,hf] at hvs
     cases hvs
     exact hv
    ·intro v hv
     rw [←List.drop_zero (l:=cs),←hcut] at hv
     obtain ⟨l,hl,hv⟩:=List.mem_flatten.1 hv
     obtain ⟨f,hf,rfl⟩:=List.mem_map.1 hl
     obtain ⟨i,hi',hfi⟩:=List.getElem_of_mem hf
     have him:i < ms.length:=by rw [hmlen]; exact hi'
     obtain ⟨f',hf',_,h1⟩:=hmp i _ (List.getElem?_eq_getElem him)
     rw [List.getElem?_eq_getElem hi',hfi] at hf'
     cases hf'
     exact h1 v hv
   ·cases h
  ·-- an array
   rename_i cs _ _ k e he
   cases he
   cases hk':td.k <;> simp [hk',Q0] at hk
   obtain ⟨rfl,rfl⟩:=hk
   rename_i k e
   rw [hk'] at hcl
   simp only at hcl
   obtain ⟨hem,te,hte,hts⟩:=hcl
   have hes:=a0V hT hte
   split at h
   ·rename_i hlen
    obtain ⟨xs,hxs,h⟩:=Option.map_eq_some_iff.1 h
    cases h
    have hxl:=Lib.mapM_length hxs
    simp only [List.length_range] at hxl
    simp only [List.length_map,hxl,if_true]
    obtain ⟨ms,hms,hml,hmp⟩:=a1e (f:=avD A n e) (fun i m=>VRs (Gh.start w) m ((cs.drop (i * P.cellsOf e)).take (P.cellsOf e))∧∀ v ∈ (cs.drop (i * P.cellsOf e)).take (P.cellsOf e),v.oneCell' = true) (xs.map (·.1)) 0 (fun i x hx=>by
     rw [List.getElem?_map] at hx
     obtain ⟨y,hy,rfl⟩:=Option.map_eq_some_iff.1 hx
     have hik:i < k:=by rw [←hxl]; exact (List.getElem?_eq_some_iff.1 hy).1
     obtain ⟨b,hb,htr⟩:=Lib.mapM_at hxs i i (by simp [hik])
     rw [hb] at hy; cases hy
     obtain ⟨m,h1,h2,h3⟩:=ih e _ _ _ hem htr
     exact ⟨m,h1,by simpa using h2,by simpa using h3⟩)
    simp only [Nat.zero_add] at hmp
    simp only [hms,Option.map_some]
    have hmlen:ms.length = k:=by rw [hml,List.length_map,hxl]
    have hcl':cs.length = k * P.cellsOf e:=by rw [hlen,hsz,hts,hes]
    have hcut:∀ (j:Nat),((List.range' j (k - j)).map fun i=>(cs.drop (i * P.cellsOf e)).take (P.cellsOf e)).flatten = cs.drop (j * P.cellsOf e):=by
     intro j
     induction hj:k - j generalizing j with
     | zero=>
      rw [List.drop_eq_nil_of_le (by rw [hcl']; exact Nat.mul_le_mul_right _ (by omega))]
      rfl
     | succ q ihq=>
      rw [List.range'_succ,List.map_cons,List.flatten_cons,ihq (j + 1) (by omega),Nat.add_mul,Nat.one_mul,←List.drop_drop]
      exact List.take_append_drop _ _
    have hcut0:=hcut 0
    simp only [Nat.zero_mul,List.drop_zero,Nat.sub_zero] at hcut0
    refine ⟨_,rfl,?_,?_⟩
    ·rw [←hcut0]
     refine VRs.flat (by simp [hmlen]) fun i m vs hm hvs=>?_
     rw [List.getElem?_map] at hvs
     obtain ⟨i',hi',rfl⟩:=Option.map_eq_some_iff.1 hvs
     rw [List.getElem?_range'] at hi'
     ·cases hi'
      simpa using (hmp i m hm).1
     ·rw [←hmlen]; exact (List.getElem?_eq_some_iff.1 hm).1
    ·intro v hv
     rw [←hcut0] at hv
     obtain ⟨l,hl,hv⟩:=List.mem_flatten.1 hv
     obtain ⟨i,hi',rfl⟩:=List.mem_map.1 hl
     have hik:i < ms.length:=by rw [hmlen]; simpa using hi'
     exact (hmp i _ (List.getElem?_eq_getElem hik)).2 v hv
   ·cases h
  ·rename_i he
   cases he
   cases h
   cases hk':td.k <;> simp [hk',Q0] at hk
   exact ⟨_,rfl,VRs.single .nili rfl⟩
  ·rename_i he
   cases he
   cases hk':td.k <;> simp [hk',Q0] at hk
   split at h
   ·cases h; exact ⟨_,rfl,VRs.single (.any _) rfl⟩
   ·obtain ⟨x,_,hx⟩:=Option.map_eq_some_iff.1 h
    cases hx
    exact ⟨_,rfl,VRs.single (.any _) rfl⟩
   ·cases h
  ·rename_i he
   cases he
   cases h
   cases hk':td.k <;> simp [hk',Q0] at hk
   exact ⟨_,rfl,VRs.single .nilm rfl⟩
  ·rename_i he
   cases he
   cases hk':td.k <;> simp [hk',Q0] at hk
   split at h
   ·split at h
    ·obtain ⟨x,_,hx⟩:=Option.bind_eq_some_iff.1 h
     split at hx
     ·cases hx; exact ⟨_,rfl,VRs.single (.any _) rfl⟩
     ·cases hx
    ·cases h
   ·cases h
  ·rename_i he
   cases he
   cases h
   cases hk':td.k <;> simp [hk',Q0] at hk
   exact ⟨_,rfl,VRs.single .nilfn rfl⟩
  ·rename_i he
   cases he
   cases h
   cases hk':td.k <;> simp [hk',Q0] at hk
   exact ⟨_,rfl,VRs.single (.any _) rfl⟩
  ·rename_i he
   cases he
   cases h
   cases hk':td.k <;> simp [hk',Q0] at hk
   exact ⟨_,rfl,VRs.single (.any _) rfl⟩
  ·rename_i he
   cases he
   split at h
   ·cases h
    cases hk':td.k <;> simp [hk',Q0] at hk
    exact ⟨_,rfl,VRs.single (.any _) rfl⟩
   ·cases h
  ·rename_i he
   cases he
   split at h
   ·cases h
    cases hk':td.k <;> simp [hk',Q0] at hk
    exact ⟨_,rfl,VRs.single (.any _) rfl⟩
   ·cases h
  ·rename_i he
   cases he
   split at h
   ·cases h
    cases hk':td.k <;> simp [hk',Q0] at hk
    exact ⟨_,rfl,VRs.single (.any _) rfl⟩
   ·cases h
  ·cases h
theorem mapM_mono {α β:Type} {f g:α→Option β} (h:∀ a b,f a = some b→g a = some b):∀ {l:List α} {r:List β},l.mapM f = some r→l.mapM g = some r:=by
 intro l
 induction l with
 | nil=>intro r hr; exact hr
 | cons x l ih=>
  intro r hr
  simp only [List.mapM_cons,Option.bind_eq_bind,Option.bind_eq_some_iff,Option.pure_def,Option.some.injEq] at hr ⊢
  obtain ⟨b,hb,r',hr',rfl⟩:=hr
  exact ⟨b,h x b hb,r',ih hr',rfl⟩
theorem avD_up {H:Type}:∀ (n:Nat) (t:TypeId) (d:DataW H) (l:List AV),avD A n t d = some l→avD A (n + 1) t d = some l:=by
 intro n
 induction n with
 | zero=>intro t d l h; simp [avD] at h
 | succ n ih=>
  intro t d l h
  rw [avD] at h ⊢
  cases htd:P0 t A.tab with
  | none=>simp [htd] at h
  | some td=>
   simp only [htd,Option.bind_some] at h ⊢
   split at h
   ·exact h
   ·exact h
   ·exact h
   ·exact h
   ·obtain ⟨m,hm,rfl⟩:=Option.map_eq_some_iff.1 h
    simp only [ih _ _ _ hm,Option.map_some]
   ·exact h
   ·split at h
    ·rename_i hl
     obtain ⟨m,hm,rfl⟩:=Option.map_eq_some_iff.1 h
     simp only [hl,if_true,mapM_mono (fun a b=>ih _ a b) hm,Option.map_some]
    ·cases h
   ·split at h
    ·rename_i hl
     obtain ⟨m,hm,rfl⟩:=Option.map_eq_some_iff.1 h
     simp only [hl,if_true]
     rw [mapM_mono (fun a b=>ih a.1.2 a.2 b) hm]
     rfl
    ·cases h
   ·split at h
    ·rename_i hl
     obtain ⟨m,hm,rfl⟩:=Option.map_eq_some_iff.1 h
     simp only [hl,if_true,mapM_mono (fun a b=>ih _ a b) hm,Option.map_some]
    ·cases h
   ·exact h
   ·exact h
   ·exact h
   ·exact h
theorem avD_ups {H:Type} {n m:Nat} (hnm:n ≤ m) {t:TypeId} {d:DataW H} {l:List AV} (h:avD A n t d = some l):avD A m t d = some l:=by
 induction hnm with
 | refl=>exact h
 | step _ ih=>exact avD_up _ _ _ _ ih
theorem avD_det {H:Type} {n m:Nat} {t:TypeId} {d:DataW H} {l l':List AV} (h:avD A n t d = some l) (h':avD A m t d = some l'):l = l':=by
 have a:=avD_ups (Nat.le_max_left n m) h
 have b:=avD_ups (Nat.le_max_right n m) h'
 rw [a] at b
 exact Option.some.inj b
theorem laid_mem {w:World} {name:String} {d:DataW Unit}:∀ {laid:List (String × DataW Unit)} {ps:List MemPlace},DataW.LaidVars P w laid ps→(name,d) ∈ laid →
  ∃ g t cs fuel p,P.globalNamed name = some g∧(P.globals[g]?).map (·.type) = some t∧w.var? P name = some cs∧DataW.trod (fun _=>()) P w 0 (fun _=>true) false fuel t cs.toList = some (d,p):=by
 intro laid
 induction laid with
 | nil=>intro ps _ h; simp at h
 | cons x r ih=>
  obtain ⟨n',d'⟩:=x
  intro ps h hm
  obtain ⟨g,t,cs,fuel,p,q,h1,h2,h3,h4,h5,_⟩:=h
  rcases List.mem_cons.1 hm with hm | hm
  ·cases hm; exact ⟨g,t,cs,fuel,p,h1,h2,h3,h4⟩
  ·exact ih h5 hm
theorem glob_of (hT:X1 P A) {ts:List TypeId} (hc:a1S A ts = true) {laid:List (String × DataW Unit)} {W:World} (hL:laidMet P laid W) {name:String} {d:DataW Unit} (hm:(name,d) ∈ laid) {g t N:Nat} {cs:List AV}
  (hg:P.globalNamed name = some g) (hty:(P.globals[g]?).map (·.type) = some t) (ht:t ∈ ts) (hav:avD A N t d = some cs):VR (Gh.start W) (.ip cs) (.pointer (some ⟨g,0,none⟩)):=by
 obtain ⟨ps,hl,_⟩:=hL
 obtain ⟨g',t',vs,fuel,p,h1,h2,h3,h4⟩:=laid_mem hl hm
 obtain rfl:=Option.some.inj (hg.symm.trans h1)
 obtain rfl:=Option.some.inj (hty.symm.trans h2)
 obtain ⟨l,h5,h6,_⟩:=trod_av hT hc fuel _ _ d p ht h4
 obtain rfl:=avD_det hav h5
 have hb:∃ tt fr,W.heap[g]? = some (.cells vs tt fr):=by
  unfold World.var? at h3
  rw [hg] at h3
  simp only [Option.bind_some] at h3
  split at h3
  ·rename_i c tt fr hc; cases h3; exact ⟨tt,fr,hc⟩
  ·cases h3
 obtain ⟨tt,fr,hb⟩:=hb
 refine .ip cs g 0 vs.toList (start_H hb) (by rw [←h6.len]; omega) fun j a v ha hv=>?_
 rw [Nat.zero_add] at hv
 exact h6.at_ j a v ha hv
end
end Go.St
namespace Go.St
open Go.RowKit Go.ChangeShapes Go.WideShapes
set_option linter.unusedVariables false
set_option linter.unusedSimpArgs false
theorem post_far {H:Type} {enc:TypeId × Value→H} {P:Program} {f:Func} {s:ChangeSpec} {apart fresh handsOn:Bool} {W W':World} {args:Array Value} {v:Value} {ds gs:List (DataW H)} {before pa pv:List MemPlace}
  (hW:DataW.Whole enc P f.params.toList s.vars apart W args.toList ds gs before)
  (hres:∀ (b:Nat) (sp:Nat→Bool) (hd:Bool),DataW.TrodAll enc P W' b sp hd f.resultTypes.toList (v.resultList f.resultTypes.size) (s.fn H (ds ++ gs)).results [])
  (hargs:DataW.TrodAll enc P W' 0 (fun b=>decide (b < W.heap.size)) true f.params.toList args.toList (s.fn H (ds ++ gs)).args pa)
  (hvars:∀ sp:Nat→Bool,(∀ p ∈ before,sp p.block = true)→DataW.TrodVars enc P W' sp s.vars (s.fn H (ds ++ gs)).vars pv)
  (hb:Below W.heap.size W W'):s.post enc P f apart fresh handsOn false W args v W':=by
 have hold:∀ p ∈ before,decide (p.block < W.heap.size) = true:=fun p hp=>by simpa using hW.lt p hp
 exact ⟨ds,gs,before,[],pa,pv,hW,hres _ _ _,hargs,hvars _ hold,hb.frame _,fun h=>by cases h⟩
end Go.St
namespace Go.St
open Go.RowKit
set_option linter.unusedVariables false
set_option linter.unusedSimpArgs false
def Shp (A:P2):Nat→TypeId→List AV→Prop
 | 0,_,_=>False
 | n + 1,t,l=>match P0 t A.tab with
  | none=>False
  | some td=>match td.k with
   | .bool=>∃ b,l = [.bool b]
   | .int k=>∃ x,l = [.int k x]∧(Lit.int k x).wf = true
   | .str=>∃ s:ByteArray,l = [.str s]∧s.size ≤ 140737488351232
   | .slice e=>l = [.nils]∨∃ ms,l = [rowAV ms]∧(∃ te,P0 e A.tab = some te∧ms.length * te.bytes ≤ 140737488351232)∧∀ m ∈ ms,Shp A n e m
   | .struct fs=>∃ ms:List (List AV),l = ms.flatten∧ms.length = fs.length∧∀ (i:Nat) (f:Nat × TypeId) (m:List AV),fs[i]? = some f→ms[i]? = some m→Shp A n f.2 m
   | _=>True
section
variable {P:Program} {A:P2}
theorem a4f {H:Type} {e:TypeId}:∀ {l:List (DataW H)} {d:DataW H},d ∈ l→∀ x ∈ d.weights P e,x ∈ DataW.weightsAll P e l:=by
 intro l
 induction l with
 | nil=>intro d hd; simp at hd
 | cons a r ih=>
  intro d hd x hx
  rw [DataW.weightsAll]
  rcases List.mem_cons.1 hd with rfl | hd
  ·exact List.mem_append.2 (.inl hx)
  ·exact List.mem_append.2 (.inr (ih hd x hx))
theorem a0A {H:Type}:∀ {ts:List TypeId} {l:List (DataW H)} {i:Nat} {t:TypeId} {d:DataW H},ts[i]? = some t→l[i]? = some d→∀ x ∈ d.weights P t,x ∈ DataW.weightsEach P ts l:=by
 intro ts
 induction ts with
 | nil=>intro l i t d h; simp at h
 | cons a r ih=>
  intro l i t d ht hd x hx
  cases l with
  | nil=>simp at hd
  | cons b l=>
   rw [DataW.weightsEach]
   cases i with
   | zero=>
    simp only [List.getElem?_cons_zero,Option.some.injEq] at ht hd
    subst ht; subst hd
    exact List.mem_append.2 (.inl hx)
   | succ i=>exact List.mem_append.2 (.inr (ih (by simpa using ht) (by simpa using hd) x hx))
theorem tab_bytes (hT:X1 P A) {t:TypeId} {td:TD} (h:P0 t A.tab = some td):P.bytesOf t = td.bytes:=by
 obtain ⟨i,d,hi,_,_,hb,_⟩:=(hT t td h).ok
 simp [Program.bytesOf,hi,hb]
set_option maxHeartbeats 4000000 in
theorem trod_shape (hT:X1 P A) {ts:List TypeId} (hc:a1S A ts = true) {H:Type} {enc:TypeId × Value→H} {w:World} {base:Nat} {sp:Nat→Bool} {held:Bool} :
  ∀ (n:Nat) (t:TypeId) (cs:List Value) (d:DataW H) (p:List MemPlace),t ∈ ts→DataW.trod enc P w base sp held n t cs = some (d,p)→(∀ x ∈ d.weights P t,x ≤ reachBytes) →
   ∃ l,avD A n t d = some l∧Shp A n t l:=by
 intro n
 induction n with
 | zero=>intro t cs d p _ h; simp [DataW.trod] at h
 | succ n ih=>
  intro t cs d p ht h hw
  obtain ⟨l,hl,-⟩:=trod_av hT hc (n + 1) t cs d p ht h
  refine ⟨l,hl,?_⟩
  obtain ⟨td,htd,hcl⟩:=a1K hc ht
  obtain ⟨i,ds,hi,hd,hs,_,hk,_⟩:=(hT t td htd).ok
  simp only [Shp,htd]
  simp only [DataW.trod,hd] at h
  simp only [avD,htd,Option.bind_some] at hl
  split at h
  ·-- bool
   rename_i b he
   cases he
   cases h
   cases hk':td.k <;> simp [hk',Q0] at hk
   rw [hk'] at hl
   cases hl
   exact ⟨_,rfl⟩
  ·rename_i k k' m he
   cases he
   split at h
   ·rename_i hwf
    cases h
    cases hk':td.k <;> simp [hk',Q0] at hk
    obtain ⟨rfl,hwf⟩:=hwf
    subst hk
    rw [hk'] at hl
    simp only [hwf,and_self,if_true,Option.some.injEq] at hl
    exact ⟨_,hl.symm,hwf⟩
   ·cases h
  ·rename_i k k' b he
   cases he
   split at h
   ·cases h
    cases hk':td.k <;> simp [hk',Q0] at hk
    trivial
   ·cases h
  ·rename_i s he
   cases he
   split at h
   ·rename_i hle
    cases h
    cases hk':td.k <;> simp [hk',Q0] at hk
    rw [hk'] at hl
    have h2:=hw s.data.toList.length (by rw [DataW.weights]; simp)
    simp only [reachBytes] at h2
    simp only at hl
    split at hl
    ·cases hl
     refine ⟨_,rfl,?_⟩
     show s.data.toList.toArray.size ≤ _
     rw [List.size_toArray]
     exact h2
    ·cases hl
   ·cases h
  ·rename_i e he
   cases he
   cases hk':td.k <;> simp [hk',Q0] at hk
   trivial
  ·rename_i e a he
   cases he
   cases hk':td.k <;> simp [hk',Q0] at hk
   trivial
  ·rename_i e he
   cases he
   cases h
   cases hk':td.k <;> simp [hk',Q0] at hk
   rw [hk'] at hl
   simp only [Option.some.injEq] at hl
   exact .inl hl.symm
  ·rename_i e a len cap he
   cases he
   cases hk':td.k <;> simp [hk',Q0] at hk
   rename_i e'
   subst hk
   rw [hk'] at hl hcl
   simp only at hcl
   split at h
   ·rename_i hcap
    obtain ⟨els,hels,h⟩:=Option.bind_eq_some_iff.1 h
    obtain ⟨rest,_,h⟩:=Option.map_eq_some_iff.1 h
    cases h
    simp only at hl
    split at hl
    ·obtain ⟨ms,hms,hl⟩:=Option.map_eq_some_iff.1 hl
     refine .inr ⟨ms,hl.symm,?_,?_⟩
     ·obtain ⟨te,hte,_⟩:=a1K hc hcl
      refine ⟨te,hte,?_⟩
      have hml:=Lib.mapM_length hms
      have h2:=hw ((els.map (·.1)).length * P.bytesOf e' + (rest.map (·.1)).length * P.bytesOf e') (by rw [DataW.weights,hd,←Nat.add_mul]; simp)
      rw [tab_bytes hT hte] at h2
      simp only [reachBytes] at h2
      rw [hml]
      omega
     ·intro m hm
      obtain ⟨j,hj,rfl⟩:=List.getElem_of_mem hm
      have hml:=Lib.mapM_length hms
      have hj2:j < (els.map (·.1)).length:=by omega
      have hj3:j < els.length:=by simpa using hj2
      obtain ⟨b,hb,hf⟩:=Lib.mapM_at hms j _ (List.getElem?_eq_getElem hj2)
      rw [List.getElem?_eq_getElem hj] at hb
      cases hb
      have hll:els.length = len:=by have:=Lib.mapM_length hels; simpa using this
      obtain ⟨x,hx,hf2⟩:=Lib.mapM_at hels j j (by rw [List.getElem?_range (by omega)])
      rw [List.getElem?_eq_getElem hj3] at hx
      cases hx
      obtain ⟨cs',hcs,htr⟩:=Option.bind_eq_some_iff.1 hf2
      obtain ⟨l',h1,h2⟩:=ih e' cs' _ _ hcl htr (fun x hx=>hw x (by
       rw [DataW.weights,hd]
       refine List.mem_cons_of_mem _ (List.mem_append.2 (.inl (a4f (List.mem_map.2 ⟨els[j],List.getElem_mem hj3,rfl⟩) x hx)))))
      rw [List.getElem_map] at hf
      have hf:=h1.symm.trans hf
      cases hf
      exact h2
    ·cases hl
   ·cases h
  ·rename_i cs _ _ fs he
   cases he
   cases hk':td.k <;> simp [hk',Q0] at hk
   rename_i fs'
   rw [hk'] at hl hcl
   simp only at hcl
   split at h
   ·rename_i hlen
    obtain ⟨xs,hxs,h⟩:=Option.map_eq_some_iff.1 h
    cases h
    have hfs:=a3f hk
    have hxl:=Lib.mapM_length hxs
    have hsz:=a0V hT htd
    obtain ⟨_,hmem,_⟩:=offB_cut (A:=A) (ts:=ts) P.cellsOf (fun t td _ h=>a0V hT h) (cs:=cs) hcl (by rw [hlen,hsz])
    have hfl:fs'.length = (xs.map (·.1)).length:=by rw [hfs,List.length_map,List.length_map,hxl]
    simp only [hfl,if_true] at hl
    obtain ⟨ms,hms,hl⟩:=Option.map_eq_some_iff.1 hl
    have hml:=Lib.mapM_length hms
    refine ⟨ms,hl.symm,by rw [hml,List.length_zip,←hfl,Nat.min_self],fun j f m hf hm=>?_⟩
    have hj:j < fs'.length:=(List.getElem?_eq_some_iff.1 hf).1
    have hj2:j < xs.length:=by rw [hxl]; have:=hj; rw [hfs,List.length_map] at this; exact this
    have hz:(fs'.zip (xs.map (·.1)))[j]? = some (f,xs[j].1):=by
     rw [List.getElem?_zip_eq_some]
     exact ⟨hf,by rw [List.getElem?_map,List.getElem?_eq_getElem hj2]; rfl⟩
    obtain ⟨b,hb,hfa⟩:=Lib.mapM_at hms j _ hz
    rw [hm] at hb
    cases hb
    rw [hfs,List.getElem?_map] at hf
    obtain ⟨g,hg,hf2⟩:=Option.map_eq_some_iff.1 hf
    subst hf2
    obtain ⟨y,hy,htr⟩:=Lib.mapM_at hxs j g hg
    rw [List.getElem?_eq_getElem hj2] at hy
    cases hy
    have hft:g.type ∈ ts:=hmem (g.offset,g.type) (by rw [hfs]; exact List.mem_map.2 ⟨g,List.mem_of_getElem? hg,rfl⟩)
    obtain ⟨l',h1,h2⟩:=ih g.type _ _ _ hft htr (fun x hx=>hw x (by
     rw [DataW.weights,hd]
     exact a0A (i:=j) (by rw [List.getElem?_map,hg]; rfl) (by rw [List.getElem?_map,List.getElem?_eq_getElem hj2]; rfl) x hx))
    have hfa:=h1.symm.trans hfa
    cases hfa
    exact h2
   ·cases h
  all_goals first
   | (rename_i he; cases he; cases hk':td.k <;> simp [hk',Q0] at hk; trivial)
   | (rename_i he; cases he; cases hk':td.k <;> simp [hk',Q0] at hk <;> trivial)
   | (rename_i _ he; cases he; cases hk':td.k <;> simp [hk',Q0] at hk <;> trivial)
   | cases h
end
mutual
def AV.bulk:AV→Nat
 | .str s=>s.size + 1
 | .is row _ _=>T1 row + 1
 | _=>1
def T1:List AV→Nat
 | []=>0
 | v :: r=>v.bulk + T1 r
end
theorem a1z (a b:List AV):T1 (a ++ b) = T1 a + T1 b:=by
 induction a with
 | nil=>simp [T1]
 | cons v r ih=>simp only [List.cons_append,T1,ih]; omega
theorem a1B {ms:List (List AV)} {ns:List Nat} (hl:ms.length = ns.length) (h:∀ (i:Nat) (m:List AV) (n:Nat),ms[i]? = some m→ns[i]? = some n→T1 m ≤ n):T1 ms.flatten ≤ ns.sum:=by
 induction ms generalizing ns with
 | nil=>simp [T1]
 | cons m r ih=>
  cases ns with
  | nil=>simp at hl
  | cons n ns=>
   rw [List.flatten_cons,a1z,List.sum_cons]
   have h0:=h 0 m n rfl rfl
   have:=ih (ns:=ns) (by simpa using hl) fun i m' n' hm hn=>h (i + 1) m' n' (by simpa using hm) (by simpa using hn)
   omega
theorem avD_bulk {A:P2} {H:Type} (bk:DataW H→Nat) (bks:List (DataW H)→Nat) (h1:∀ d,1 ≤ bk d) (h2:∀ s,bk (.lit (.string s)) = s.length + 1) (h3:∀ a b,bks a + 1 ≤ bk (.slice a b)) (h4:∀ a,bks a + 1 ≤ bk (.agg a))
  (h5:∀ l,bks l = (l.map bk).sum):∀ (n:Nat) (t:TypeId) (d:DataW H) (l:List AV),avD A n t d = some l→T1 l ≤ bk d:=by
 intro n
 induction n with
 | zero=>intro t d l h; simp [avD] at h
 | succ n ih=>
  intro t d l h
  have one:∀ x:AV,x.bulk = 1→l = [x]→T1 l ≤ bk d:=by
   rintro x hx rfl
   have:=h1 d
   simp only [T1,hx]
   omega
  have all:∀ {ds:List (DataW H)} {e:TypeId} {ms:List (List AV)},ds.mapM (avD A n e) = some ms→T1 ms.flatten ≤ bks ds:=by
   intro ds e ms hms
   rw [h5]
   have hml:=Lib.mapM_length hms
   refine a1B (by rw [hml,List.length_map]) fun i m k hm hk=>?_
   rw [List.getElem?_map] at hk
   obtain ⟨x,hx,rfl⟩:=Option.map_eq_some_iff.1 hk
   obtain ⟨b,hb,hf⟩:=Lib.mapM_at hms i x hx
   rw [hm] at hb
   cases hb
   exact ih e x m hf
  simp only [avD] at h
  obtain ⟨td,_,h⟩:=Option.bind_eq_some_iff.1 h
  split at h
  ·cases h; exact one _ rfl rfl
  ·split at h
   ·cases h; exact one _ rfl rfl
   ·cases h
  ·split at h
   ·cases h
    rename_i s _ _
    rw [h2]
    simp only [T1,AV.bulk]
    show s.toArray.size + 1 + 0 ≤ _
    rw [List.size_toArray]
    omega
   ·cases h
  ·cases h; exact one _ rfl rfl
  ·obtain ⟨m,_,rfl⟩:=Option.map_eq_some_iff.1 h
   refine one (ptrAV m) ?_ rfl
   unfold ptrAV
   split <;> rfl
  ·cases h; exact one _ rfl rfl
  ·split at h
   ·obtain ⟨ms,hms,rfl⟩:=Option.map_eq_some_iff.1 h
    have:=all hms
    rename_i ds sp _ _ _
    have:=h3 ds sp
    simp only [T1,rowAV]
    split
    ·simp only [AV.bulk]; omega
    ·simp only [AV.bulk]; omega
   ·cases h
  ·split at h
   ·obtain ⟨ms,hms,rfl⟩:=Option.map_eq_some_iff.1 h
    rename_i fs ds _ hl _
    have h4:=h4 ds
    have hml:=Lib.mapM_length hms
    have:T1 ms.flatten ≤ (ds.map bk).sum:=by
     refine a1B (by rw [hml,List.length_map,List.length_zip,hl,Nat.min_self]) fun i m k hm hk=>?_
     rw [List.getElem?_map] at hk
     obtain ⟨x,hx,rfl⟩:=Option.map_eq_some_iff.1 hk
     have hi:i < ds.length:=(List.getElem?_eq_some_iff.1 hx).1
     have hz:(fs.zip ds)[i]? = some (fs[i],x):=by
      rw [List.getElem?_zip_eq_some]
      exact ⟨List.getElem?_eq_getElem (by omega),hx⟩
     obtain ⟨b,hb,hf⟩:=Lib.mapM_at hms i _ hz
     rw [hm] at hb
     cases hb
     exact ih _ x m hf
    rw [h5] at h4
    omega
   ·cases h
  ·split at h
   ·obtain ⟨ms,hms,rfl⟩:=Option.map_eq_some_iff.1 h
    have:=all hms
    rename_i k e ds _ _ _
    have:=h4 ds
    omega
   ·cases h
  ·cases h; exact one _ rfl rfl
  ·cases h; exact one _ rfl rfl
  ·cases h; exact one _ rfl rfl
  ·cases h; exact one _ rfl rfl
end Go.St
namespace Go.St
open Go.RowKit
set_option linter.unusedVariables false
set_option linter.unusedSimpArgs false
theorem VR.deepAgg {G:Gh} {l:List AV} {cs:Array Value} (h:VRs G l cs.toList):VR G (.agg l) (.agg cs):=
 .agg l cs (by simpa using h.len) fun j a v ha hv=>h.at_ j a v ha (by simpa using hv)
theorem all_le {l:List Nat} {n:Nat} (h:l.all (· ≤ n) = true):∀ x ∈ l,x ≤ n:=by simpa using h
end Go.St
