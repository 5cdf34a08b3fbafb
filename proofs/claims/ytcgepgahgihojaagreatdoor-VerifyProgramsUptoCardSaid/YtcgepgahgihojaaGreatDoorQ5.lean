import Derived.KernelRfl
import Derived.Test.YtcgepgahgihojaaGreatDoorQ4
namespace Go.St
set_option linter.unusedVariables false
set_option linter.unusedSimpArgs false
def tokEq:Tok→Tok→Bool
 | .no, .no=>true
 | .full, .full=>true
 | .tip a b c, .tip x y z=>a == x && b == y && c == z
 | .cut n, .cut m=>n == m
 | _,_=>false
theorem tokEq_sound {a b:Tok} (h:tokEq a b = true):a = b:=by
 cases a <;> cases b <;> simp_all [tokEq]
mutual
def a0O:AV→AV→Bool
 | .any, .any=>true
 | .one, .one=>true
 | .bool a, .bool b=>a == b
 | .int k n, .int k' n'=>decide (k = k') && decide (n = n')
 | .str s, .str t=>decide (s = t)
 | .nilp, .nilp=>true
 | .ip a, .ip b=>a2F a b
 | .mp i g o, .mp i' g' o'=>i == i' && g == g' && o == o'
 | .nils, .nils=>true
 | .is r n t, .is r' n' t'=>a2F r r' && n == n' && tokEq t t'
 | .ms a b c d e, .ms a' b' c' d' e'=>a == a' && b == b' && c == c' && d == d' && e == e'
 | .nilm, .nilm=>true
 | .mr i, .mr i'=>i == i'
 | .fn f a b, .fn f' a' b'=>decide (f = f') && a2F a a' && a2F b b'
 | .nilfn, .nilfn=>true
 | .ifc t v, .ifc t' v'=>t == t' && a0O v v'
 | .nili, .nili=>true
 | .agg a, .agg b=>a2F a b
 | .tup a, .tup b=>a2F a b
 | .it i, .it i'=>i == i'
 | .yl i, .yl i'=>i == i'
 | _,_=>false
def a2F:List AV→List AV→Bool
 | [],[]=>true
 | a :: r,b :: s=>a0O a b && a2F r s
 | _,_=>false
end
mutual
theorem Z2:∀ (a b:AV),a0O a b = true→a = b
 | .any,b,h=>by cases b <;> simp_all [a0O]
 | .one,b,h=>by cases b <;> simp_all [a0O]
 | .bool _,b,h=>by cases b <;> simp_all [a0O]
 | .int _ _,b,h=>by cases b <;> simp_all [a0O]
 | .str _,b,h=>by cases b <;> simp_all [a0O]
 | .nilp,b,h=>by cases b <;> simp_all [a0O]
 | .ip a,b,h=>by
  cases b with
  | ip b=>rw [U6 a b (by simpa only [a0O] using h)]
  | _=>simp [a0O] at h
 | .mp _ _ _,b,h=>by cases b <;> simp_all [a0O]
 | .nils,b,h=>by cases b <;> simp_all [a0O]
 | .is r n t,b,h=>by
  cases b with
  | is r' n' t'=>
   simp only [a0O,Bool.and_eq_true,beq_iff_eq] at h
   rw [U6 r r' h.1.1,h.1.2,tokEq_sound h.2]
  | _=>simp [a0O] at h
 | .ms _ _ _ _ _,b,h=>by cases b <;> simp_all [a0O]
 | .nilm,b,h=>by cases b <;> simp_all [a0O]
 | .mr _,b,h=>by cases b <;> simp_all [a0O]
 | .fn f x y,b,h=>by
  cases b with
  | fn f' x' y'=>
   simp only [a0O,Bool.and_eq_true,decide_eq_true_eq] at h
   rw [h.1.1,U6 x x' h.1.2,U6 y y' h.2]
  | _=>simp [a0O] at h
 | .nilfn,b,h=>by cases b <;> simp_all [a0O]
 | .ifc t v,b,h=>by
  cases b with
  | ifc t' v'=>
   simp only [a0O,Bool.and_eq_true,beq_iff_eq] at h
   rw [h.1,Z2 v v' h.2]
  | _=>simp [a0O] at h
 | .nili,b,h=>by cases b <;> simp_all [a0O]
 | .agg a,b,h=>by
  cases b with
  | agg b=>rw [U6 a b (by simpa only [a0O] using h)]
  | _=>simp [a0O] at h
 | .tup a,b,h=>by
  cases b with
  | tup b=>rw [U6 a b (by simpa only [a0O] using h)]
  | _=>simp [a0O] at h
 | .it _,b,h=>by cases b <;> simp_all [a0O]
 | .yl _,b,h=>by cases b <;> simp_all [a0O]
theorem U6:∀ (a b:List AV),a2F a b = true→a = b
 | [],b,h=>by cases b <;> simp_all [a2F]
 | x :: r,b,h=>by
  cases b with
  | nil=>simp [a2F] at h
  | cons y s=>
   simp only [a2F,Bool.and_eq_true] at h
   rw [Z2 x y h.1,U6 r s h.2]
end
def a4D:List (AV × AV)→List (AV × AV)→Bool
 | [],[]=>true
 | a :: r,b :: s=>a0O a.1 b.1 && a0O a.2 b.2 && a4D r s
 | _,_=>false
theorem entsEq_sound:∀ {a b:List (AV × AV)},a4D a b = true→a = b:=by
 intro a
 induction a with
 | nil=>intro b h; cases b <;> simp_all [a4D]
 | cons x r ih=>
  intro b h
  cases b with
  | nil=>simp [a4D] at h
  | cons y s=>
   simp only [a4D,Bool.and_eq_true] at h
   rw [ih h.2,Prod.ext (Z2 _ _ h.1.1) (Z2 _ _ h.1.2)]
def obEq:Ob→Ob→Bool
 | .dead, .dead=>true
 | .cells g cs z, .cells g' cs' z'=>g == g' && z == z' && a2F cs cs'
 | .tip g, .tip g'=>g == g'
 | .bld s, .bld s'=>decide (s = s')
 | .iter s p, .iter s' p'=>p == p' && decide (s = s')
 | .map es, .map es'=>a4D es es'
 | _,_=>false
theorem a4l {a b:Ob} (h:obEq a b = true):a = b:=by
 cases a <;> cases b <;> simp only [obEq,Bool.and_eq_true,beq_iff_eq,decide_eq_true_eq,Bool.false_eq_true] at h
 ·rfl
 ·rw [h.1.1,h.1.2,U6 _ _ h.2]
 ·rw [h]
 ·rw [h]
 ·rw [h.1,h.2]
 ·rw [entsEq_sound h]
def a3d:Sto→Sto→Bool
 | [],[]=>true
 | a :: r,b :: s=>obEq a b && a3d r s
 | _,_=>false
theorem a1h:∀ {a b:Sto},a3d a b = true→a = b:=by
 intro a
 induction a with
 | nil=>intro b h; cases b <;> simp_all [a3d]
 | cons x r ih=>
  intro b h
  cases b with
  | nil=>simp [a3d] at h
  | cons y s=>
   simp only [a3d,Bool.and_eq_true] at h
   rw [ih h.2,a4l h.1]
def outEq:Out→Out→Bool
 | .ret a, .ret b=>a0O a b
 | .pan a, .pan b=>a0O a b
 | _,_=>false
theorem a3o {a b:Out} (h:outEq a b = true):a = b:=by
 cases a <;> cases b <;> simp only [outEq,Bool.false_eq_true] at h
 ·rw [Z2 _ _ h]
 ·rw [Z2 _ _ h]
def keptB (n:Nat):Sto→Sto→Bool
 | [],_=>true
 | _ :: _,[]=>false
 | a :: s,b :: t=>(b.old n || obEq a b) && keptB n s t
theorem keptB_sound {n:Nat}:∀ {s t:Sto},keptB n s t = true→s.length ≤ t.length∧∀ i,i < s.length→t[i]? = s[i]?∨∃ o,t[i]? = some o∧o.old n = true:=by
 intro s
 induction s with
 | nil=>intro t _; exact ⟨Nat.zero_le _,fun i hi=>absurd hi (Nat.not_lt_zero _)⟩
 | cons a s ih=>
  intro t h
  cases t with
  | nil=>simp [keptB] at h
  | cons b t=>
   simp only [keptB,Bool.and_eq_true,Bool.or_eq_true] at h
   obtain ⟨h1,h2⟩:=ih h.2
   refine ⟨by simp; exact h1,fun i hi=>?_⟩
   cases i with
   | zero=>
    simp only [List.getElem?_cons_zero]
    rcases h.1 with h | h
    ·exact .inr ⟨b,rfl,h⟩
    ·exact .inl (by rw [a4l h])
   | succ i=>
    simp only [List.getElem?_cons_succ]
    exact h2 i (by simpa using hi)
def gcB (st:Sto) (r:Out × Sto):Option (Out × Sto):=
 bif (r.1.val.strip st.length).old st.length then (bif keptB st.length st r.2 then some (r.1.map (AV.strip st.length),r.2.take st.length) else none) else some r
theorem gcB_sound {st:Sto} {r x:Out × Sto} (h:gcB st r = some x):gc st r = x:=by
 unfold gcB at h
 unfold gc
 cases ho:(r.1.val.strip st.length).old st.length with
 | false=>
  simp only [ho,cond_false,Option.some.injEq] at h
  rw [if_neg (by rintro ⟨h1,_⟩; cases h1),h]
 | true=>
  simp only [ho,cond_true] at h
  cases hk:keptB st.length st r.2 with
  | false=>simp [hk] at h
  | true=>
   simp only [hk,cond_true,Option.some.injEq] at h
   obtain ⟨h1,h2⟩:=keptB_sound hk
   rw [if_pos ⟨rfl,h1,h2⟩,h]
section
variable {R:Type} {A:P2}
def againB (A:P2) (C:Call) (nt:a0o) (rid:Nat) (st:Sto) (k:Option R):List Rd→Option R
 | []=>k
 | r :: l=>a07 A C (wrs nt rid r.i) (evA A r.env) r.o st fun out st'=>bif outEq out r.out && a3d st' st then againB A C nt rid st k l else none
def alikeB (A:P2) (C:Call) (w:Bool) (env:List AV) (o:Oper) (out:Out) (k:Option R):List Sto→Option R
 | []=>k
 | s :: l=>a07 A C w (evA A env) o s fun out' s'=>bif outEq out' out && a3d s' s then alikeB A C w env o out k l else none
def drawOpB (A:P2) (C:Call) (nt:a0o) (rid:Nat) (ops:Array Oper) (b:Array Nat) (o:Oper) (i:Nat) (d:DS) (k:DS→Option R):Option R:=
 a0x ops o d.env
  (fun env=>match kindOf nt rid i o with
  | .pure=>a07 A C (wrs nt rid i) (evA A env) o d.st fun out _=>out.on (fun v=>k { d with env:=put env o.dst v }) (fun _=>none)
  | .look=>a07 A C (wrs nt rid i) (evA A env) o d.st fun out _=>
    out.on (fun v=>alikeB A C (wrs nt rid i) env o (.ret v) (k { d with env:=put env o.dst v,reads:=⟨i,env,o, .ret v⟩ :: d.reads }) (d.old.take (a21 b i d.acts))) (fun _=>none)
  | .read=>a07 A C (wrs nt rid i) (evA A env) o d.st fun out st'=>
    out.on (fun v=>bif a3d st' d.st then alikeB A C (wrs nt rid i) env o (.ret v) (k { d with env:=put env o.dst v,reads:=⟨i,env,o, .ret v⟩ :: d.reads }) (d.old.take (a21 b i d.acts)) else none) (fun _=>none)
  | .act=>bif a21 b i d.acts == 0 then a07 A C (wrs nt rid i) (evA A env) o d.st fun out st'=>
    out.on (fun v=>againB A C nt rid st' (k { d with env:=put env o.dst v,st:=st',old:=d.st :: d.old,acts:=i :: d.acts }) (d.reads.filter fun r=>!(b.getD i 0).testBit r.i)) (fun _=>none)
   else none)
  (fun env=>k { d with env:=put env o.dst (.tup []) })
def a2J (A:P2) (C:Call) (nt:a0o) (rid:Nat) (ops:Array Oper) (b:Array Nat) (k:DS→Option R):List Oper→Nat→DS→Option R
 | [],_,d=>k d
 | o :: r,i,d=>drawOpB A C nt rid ops b o i d fun d'=>a2J A C nt rid ops b k r (i + 1) d'
def runDrawB (A:P2) (C:Call) (nt:a0o) (rid:Nat) (ops:Array Oper) (kn:List AV→Sto→Option R) (env:List AV) (st:Sto):Option R:=
 bif a0a ops && a1m ops (Region.before ops) then
  a2J A C nt rid ops (Region.before ops) (fun d=>kn d.env d.st) ops.toList 0 { env:=env,st:=st,old:=[],reads:=[],acts:=[] }
 else none
open Classical in
theorem againB_le {C:Call} {nt:a0o} {rid:Nat} {st:Sto} {k k':Option R} (hk:∀ r,k = some r→k' = some r) {r:R}:∀ {l:List Rd},againB A C nt rid st k l = some r→again A C nt rid st k' l = some r:=by
 intro l
 induction l with
 | nil=>exact hk r
 | cons x l ih=>
  intro h
  simp only [againB,again,Y8] at h ⊢
  obtain ⟨y,hy,h⟩:=Option.bind_eq_some_iff.1 h
  simp only [hy,Option.bind_some]
  cases hc:(outEq y.1 x.out && a3d y.2 st) with
  | false=>simp [hc] at h
  | true=>
   simp only [hc,cond_true] at h
   simp only [Bool.and_eq_true] at hc
   rw [if_pos (by rw [a3o hc.1,a1h hc.2])]
   exact ih h
open Classical in
theorem alikeB_le {C:Call} {w:Bool} {env:List AV} {o:Oper} {out:Out} {k k':Option R} (hk:∀ r,k = some r→k' = some r) {r:R}:∀ {l:List Sto},alikeB A C w env o out k l = some r→alike A C w env o out k' l = some r:=by
 intro l
 induction l with
 | nil=>exact hk r
 | cons x l ih=>
  intro h
  simp only [alikeB,alike,Y8] at h ⊢
  obtain ⟨y,hy,h⟩:=Option.bind_eq_some_iff.1 h
  simp only [hy,Option.bind_some]
  cases hc:(outEq y.1 out && a3d y.2 x) with
  | false=>simp [hc] at h
  | true=>
   simp only [hc,cond_true] at h
   simp only [Bool.and_eq_true] at hc
   rw [if_pos (by rw [a3o hc.1,a1h hc.2])]
   exact ih h
open Classical in
theorem drawOpB_le {C:Call} {nt:a0o} {rid:Nat} {ops:Array Oper} {b:Array Nat} {o:Oper} {i:Nat} {d:DS} {k k':DS→Option R} (hk:∀ d r,k d = some r→k' d = some r) {r:R} (h:drawOpB A C nt rid ops b o i d k = some r):a3S A C nt rid ops b o i d k' = some r:=by
 unfold drawOpB at h
 unfold a3S
 rw [guardK_eq'] at h ⊢
 obtain ⟨q,hq,h⟩:=Option.bind_eq_some_iff.1 h
 simp only [hq,Option.bind_some]
 obtain ⟨q,env⟩:=q
 cases q with
 | false=>simp only [cond_false] at h ⊢; exact hk _ _ h
 | true=>
  simp only [cond_true] at h ⊢
  cases hkd:kindOf nt rid i o with
  | pure=>
   simp only [hkd,Y8] at h ⊢
   obtain ⟨⟨out,s⟩,hx,h⟩:=Option.bind_eq_some_iff.1 h
   simp only [hx,Option.bind_some]
   cases out with
   | ret v=>simp only [Out.on] at h ⊢; exact hk _ _ h
   | pan v=>simp only [Out.on] at h; cases h
  | look=>
   simp only [hkd,Y8] at h ⊢
   obtain ⟨⟨out,s⟩,hx,h⟩:=Option.bind_eq_some_iff.1 h
   simp only [hx,Option.bind_some]
   cases out with
   | ret v=>simp only [Out.on] at h ⊢; exact alikeB_le (hk _) h
   | pan v=>simp only [Out.on] at h; cases h
  | read=>
   simp only [hkd,Y8] at h ⊢
   obtain ⟨⟨out,s⟩,hx,h⟩:=Option.bind_eq_some_iff.1 h
   simp only [hx,Option.bind_some]
   cases out with
   | ret v=>
    simp only [Out.on] at h ⊢
    cases hs:a3d s d.st with
    | false=>simp [hs] at h
    | true=>
     simp only [hs,cond_true] at h
     rw [if_pos (a1h hs)]
     exact alikeB_le (hk _) h
   | pan v=>simp only [Out.on] at h; cases h
  | act=>
   simp only [hkd] at h ⊢
   cases hl:a21 b i d.acts == 0 with
   | false=>simp only [hl,cond_false] at h; cases h
   | true=>
    simp only [hl,cond_true,Y8] at h ⊢
    obtain ⟨⟨out,s⟩,hx,h⟩:=Option.bind_eq_some_iff.1 h
    simp only [hx,Option.bind_some]
    cases out with
    | ret v=>simp only [Out.on] at h ⊢; exact againB_le (hk _) h
    | pan v=>simp only [Out.on] at h; cases h
theorem drawOpsB_le {C:Call} {nt:a0o} {rid:Nat} {ops:Array Oper} {b:Array Nat} {k k':DS→Option R} (hk:∀ d r,k d = some r→k' d = some r):∀ (l:List Oper) (i:Nat) (d:DS) (r:R),a2J A C nt rid ops b k l i d = some r→a0F A C nt rid ops b k' l i d = some r:=by
 intro l
 induction l with
 | nil=>intro i d r h; exact hk _ _ h
 | cons o l ih=>
  intro i d r h
  simp only [a2J] at h
  simp only [a0F]
  exact drawOpB_le (fun d r h=>ih (i + 1) d r h) h
theorem runDrawB_le {C:Call} {nt:a0o} {rid:Nat} {ops:Array Oper} {kn:List AV→Sto→Option R} {kp:AV→Sto→Option R} {env:List AV} {st:Sto} {r:R} (h:runDrawB A C nt rid ops kn env st = some r):a1p A C nt rid ops kn kp env st = some r:=by
 unfold runDrawB at h
 unfold a1p
 cases hc:(a0a ops && a1m ops (Region.before ops)) with
 | false=>simp [hc] at h
 | true=>
  simp only [hc,cond_true] at h ⊢
  exact drawOpsB_le (fun d r h=>h) _ _ _ _ h
end
noncomputable def stepB (A:P2) (C:Call) (K:Y5) (c:Cfg):Option Res:=match c.todo with
 | .code p (.region rid ops true) :: t=>bif A.draws then runDrawB A C (A.note c.f) rid ops (fun env' st'=>K { c with todo:=t,env:=env',st:=st' }) ((A.note c.f).keepAt p c.env) c.st else none
 | _=>a2i A C K c
theorem stepB_le {A:P2} {C:Call} {K:Y5} {c:Cfg} {r:Res} (h:stepB A C K c = some r):a2i A C K c = some r:=by
 unfold stepB at h
 split at h
 ·rename_i p rid ops t ht
  cases hd:A.draws with
  | false=>simp [hd] at h
  | true=>
   simp only [hd,cond_true] at h
   obtain ⟨f,todo,env,dfr,rc,st⟩:=c
   simp only at ht
   subst ht
   simp only [a2i,hd,cond_true]
   exact runDrawB_le h
 ·exact h
noncomputable def runB (A:P2):Nat→Y5
 | 0,_=>none
 | k + 1,c=>stepB A (fun f args st=>(entry A f args st).bind fun c'=>(runB A k c').bind fun r=>(match A.mode f with | 0=>gcB st (r.out,r.st) | 2=>some (r.out,r.st) | _=>none)) (runB A k) c
noncomputable def callB (A:P2) (k:Nat):Call:=fun f args st=>(entry A f args st).bind fun c'=>(runB A k c').bind fun r=>(match A.mode f with | 0=>gcB st (r.out,r.st) | 2=>some (r.out,r.st) | _=>none)
theorem callB_le {A:P2} {k:Nat} (h:Kle (runB A k) (run A k)):Call.le (callB A k) (a0I A k):=by
 intro f a s r hr
 unfold callB at hr
 unfold a0I
 obtain ⟨c,hc,hr⟩:=Option.bind_eq_some_iff.1 hr
 obtain ⟨x,hx,hr⟩:=Option.bind_eq_some_iff.1 hr
 simp only [hc,h c x hx,Option.bind_some,Option.some.injEq]
 match ht:A.mode f with
 | 0=>
  rw [ht] at hr
  exact gcB_sound hr
 | 1=>rw [ht] at hr; cases hr
 | 2=>
  rw [ht] at hr
  cases hr
  rfl
 | m + 3=>rw [ht] at hr; cases hr
theorem runB_le (A:P2):∀ k,Kle (runB A k) (run A k):=by
 intro k
 induction k with
 | zero=>intro c r h; simp [runB] at h
 | succ k ih=>
  intro c r h
  rw [runB] at h
  exact (a0M A c).mono (callB_le ih) ih r (stepB_le h)
theorem ev_call {A:P2} (k:Nat) {f:FuncId} {args:List AV} {st:Sto} {r:Out × Sto} (h:callB A k f args st = some r):O1 A f args st = some r:=a3Q A k f args st r (callB_le (runB_le A k) f args st r h)
end Go.St
namespace Go.Proofs.YtcgepgahgihojaaGreatDoor
open Go.St Go.Lib
set_option linter.unusedVariables false
set_option linter.unusedSimpArgs false
theorem t3:P0 3 ap.tab = some td3:=by kernel_rfl
theorem t9:P0 9 ap.tab = some td9:=by kernel_rfl
theorem t22:P0 22 ap.tab = some td22:=by kernel_rfl
theorem t23:P0 23 ap.tab = some td23:=by kernel_rfl
theorem t24:P0 24 ap.tab = some td24:=by kernel_rfl
theorem t25:P0 25 ap.tab = some td25:=by kernel_rfl
theorem t27:P0 27 ap.tab = some td27:=by kernel_rfl
theorem t56:P0 56 ap.tab = some td56:=by kernel_rfl
theorem t55:P0 55 ap.tab = some td55:=by kernel_rfl
theorem t58:P0 58 ap.tab = some td58:=by kernel_rfl
theorem t86:P0 86 ap.tab = some td86:=by kernel_rfl
theorem t99:P0 99 ap.tab = some td99:=by kernel_rfl
theorem t76:P0 76 ap.tab = some td76:=by kernel_rfl
theorem t73:P0 73 ap.tab = some td73:=by kernel_rfl
theorem t75:P0 75 ap.tab = some td75:=by kernel_rfl
theorem t133:P0 133 ap.tab = some td133:=by kernel_rfl
theorem a01 {n:Nat} {l:List AV} (h:Shp ap n 9 l):∃ s:ByteArray,l = [.str s]:=by
 cases n with
 | zero=>exact h.elim
 | succ n=>
  simp only [Shp,t9] at h
  obtain ⟨s,h,_⟩:=h
  exact ⟨s,h⟩
theorem W0 {n:Nat} {l:List AV} (h:Shp ap n 3 l):∃ x:Int,l = [.int .i64 x]:=by
 cases n with
 | zero=>exact h.elim
 | succ n=>
  simp only [Shp,t3] at h
  obtain ⟨x,h,hw⟩:=h
  exact ⟨x,h⟩
theorem rowAV_at {ms:List (List AV)} (h:ms.length = 0∨ms.flatten.length ≠ 0):rowAV ms = .is ms.flatten ms.length .no:=by
 unfold rowAV
 rw [if_pos h]
theorem a1Q {w:Nat}:∀ {ms:List (List AV)},(∀ m ∈ ms,m.length = w)→ms.flatten.length = ms.length * w:=by
 intro ms
 induction ms with
 | nil=>intro _; simp
 | cons m r ih=>intro h; rw [List.flatten_cons,List.length_append,ih fun x hx=>h x (by simp [hx]),h m (by simp),List.length_cons,Nat.succ_mul]; omega
theorem flat_at {w:Nat}:∀ {ms:List (List AV)} {i:Nat},(∀ m ∈ ms,m.length = w)→i < ms.length→(ms.flatten.drop (i * w)).take w = ms.getD i []:=by
 intro ms
 induction ms with
 | nil=>intro i _ h; simp at h
 | cons m r ih=>
  intro i h hi
  have hm:=h m (by simp)
  cases i with
  | zero=>rw [List.flatten_cons,Nat.zero_mul,List.drop_zero,←hm,List.take_left]; rfl
  | succ i=>
   rw [List.flatten_cons,Nat.succ_mul,Nat.add_comm,←List.drop_drop,←hm,List.drop_left,hm]
   exact ih (fun x hx=>h x (by simp [hx])) (by simpa using hi)
theorem a2O:∀ {ms:List (List AV)} {m:List AV},m ∈ ms→T1 m ≤ T1 ms.flatten:=by
 intro ms
 induction ms with
 | nil=>intro m h; simp at h
 | cons x r ih=>
  intro m h
  rw [List.flatten_cons,a1z]
  rcases List.mem_cons.1 h with rfl | h
  ·omega
  ·have:=ih h; omega
theorem a0W:∀ {ms:List (List AV)},(∀ m ∈ ms,1 ≤ T1 m)→ms.length ≤ T1 ms.flatten:=by
 intro ms
 induction ms with
 | nil=>intro _; simp
 | cons x r ih=>
  intro h
  rw [List.flatten_cons,a1z]
  have:=ih fun y hy=>h y (by simp [hy])
  have:=h x (by simp)
  simp only [List.length_cons]
  omega
theorem a2L {ms:List (List AV)} {i:Nat} (h:i < ms.length):ms.getD i [] ∈ ms:=by
 rw [List.getD_eq_getElem?_getD,List.getElem?_eq_getElem h]
 exact List.getElem_mem h
theorem all_of {α:Type} (d:α) {Q:α→List AV→Prop}:∀ {ms:List (List AV)},(∀ m ∈ ms,∃ x,Q x m)→∃ l:List α,l.length = ms.length∧∀ i,i < ms.length→Q (l.getD i d) (ms.getD i []):=by
 intro ms
 induction ms with
 | nil=>intro _; exact ⟨[],rfl,fun i hi=>by simp at hi⟩
 | cons m r ih=>
  intro h
  obtain ⟨x,hx⟩:=h m (by simp)
  obtain ⟨l,h1,h2⟩:=ih fun y hy=>h y (by simp [hy])
  refine ⟨x :: l,by simp [h1],fun i hi=>?_⟩
  cases i with
  | zero=>exact hx
  | succ i=>exact h2 i (by simpa using hi)
theorem el_row {w:Nat} (hw:0 < w) {ms:List (List AV)} {f:Nat→List AV→Prop} (hl:∀ m ∈ ms,m.length = w) (hf:∀ i,i < ms.length→f i (ms.getD i [])) {tok:Tok}:ElV w ms.length f (.is ms.flatten ms.length tok):=by
 refine ⟨rfl,rfl,rfl,fun i hi=>⟨ms.getD i [],?_,hf i hi⟩⟩
 have hfl:=a1Q hl
 have hc:(i + 1) * w ≤ ms.flatten.length:=by rw [hfl]; exact Nat.mul_le_mul_right w hi
 simp only [ia,P9 hi,Option.bind_some,hc,if_true,flat_at hl hi]
theorem a05 {w:Nat} {f:Nat→List AV→Prop}:ElV w 0 f .nils:=⟨rfl,rfl,rfl,fun i hi=>absurd hi (by omega)⟩
theorem row_of {w:Nat} (hw:0 < w) {ms:List (List AV)} (hl:∀ m ∈ ms,m.length = w):rowAV ms = .is ms.flatten ms.length .no:=by
 refine rowAV_at ?_
 have:=a1Q hl
 by_cases h:ms.length = 0
 ·exact .inl h
 ·right
  rw [this]
  have:=Nat.mul_pos (Nat.pos_of_ne_zero h) hw
  omega
theorem a4m {n:Nat} {l:List AV} (h:Shp ap n 56 l):∃ v xs,l = [v]∧W4 xs v∧xs.length + 1 ≤ v.bulk:=by
 cases n with
 | zero=>exact h.elim
 | succ n=>
  simp only [Shp,t56] at h
  rcases h with rfl | ⟨ms,rfl,_,hm⟩
  ·exact ⟨_,[],rfl,a05,by simp [AV.bulk]⟩
  ·obtain ⟨xs,h1,h2⟩:=all_of (0:Int) (Q:=fun x m=>m = [.int .i64 x]) (ms:=ms) fun m hmm=>W0 (hm m hmm)
   have hl:∀ m ∈ ms,m.length = 1:=fun m hmm=>by obtain ⟨x,rfl⟩:=W0 (hm m hmm); rfl
   have hb:=a0W (ms:=ms) fun m hmm=>by obtain ⟨x,rfl⟩:=W0 (hm m hmm); simp [T1,AV.bulk]
   refine ⟨_,xs,rfl,?_,?_⟩
   ·rw [row_of (by omega) hl]
    unfold W4
    rw [h1]
    exact el_row (by omega) hl h2
   ·rw [row_of (by omega) hl,AV.bulk]
    omega
theorem op_shape {n:Nat} {l:List AV} (h:Shp ap n 86 l):∃ o,OpC o l∧o.l.length + 1 ≤ T1 l:=by
 cases n with
 | zero=>exact h.elim
 | succ n=>
  simp only [Shp,t86] at h
  obtain ⟨ps,rfl,hl,hp⟩:=h
  match ps,hl with
  | [q0,q1,q2,q3,q4],_=>
   obtain ⟨k,rfl⟩:=W0 (hp 0 _ _ rfl rfl)
   obtain ⟨a,rfl⟩:=W0 (hp 1 _ _ rfl rfl)
   obtain ⟨b,rfl⟩:=W0 (hp 2 _ _ rfl rfl)
   obtain ⟨c,rfl⟩:=W0 (hp 3 _ _ rfl rfl)
   obtain ⟨v,xs,rfl,hv,hb⟩:=a4m (hp 4 _ _ rfl rfl)
   refine ⟨⟨k,a,b,c,xs⟩,⟨v,rfl,hv⟩,?_⟩
   simp only [List.flatten_cons,List.flatten_nil,List.append_nil,List.cons_append,List.nil_append,T1,AV.bulk]
   omega
theorem ops_shape {n:Nat} {l:List AV} (h:Shp ap n 55 l):∃ v os,l = [v]∧a2U os v∧os.length + 1 ≤ v.bulk∧∀ i,(os.getD i default).l.length ≤ v.bulk:=by
 cases n with
 | zero=>exact h.elim
 | succ n=>
  simp only [Shp,t55] at h
  rcases h with rfl | ⟨ms,rfl,_,hm⟩
  ·exact ⟨_,[],rfl,a05,by simp [AV.bulk],fun i=>by simp [default,instInhabitedOpA.default]⟩
  ·obtain ⟨os,h1,h2⟩:=all_of (default:OpA) (Q:=fun o m=>OpC o m∧o.l.length + 1 ≤ T1 m) (ms:=ms) fun m hmm=>op_shape (hm m hmm)
   have hl:∀ m ∈ ms,m.length = 5:=fun m hmm=>by obtain ⟨o,⟨lv,rfl,_⟩,_⟩:=op_shape (hm m hmm); rfl
   have hb:=a0W (ms:=ms) fun m hmm=>by obtain ⟨o,_,hb⟩:=op_shape (hm m hmm); omega
   rw [row_of (by omega) hl]
   refine ⟨_,os,rfl,?_,?_,fun i=>?_⟩
   ·unfold a2U
    rw [h1]
    exact el_row (by omega) hl fun i hi=>(h2 i hi).1
   ·rw [AV.bulk]; omega
   ·rw [AV.bulk]
    by_cases hi:i < ms.length
    ·have:=(h2 i hi).2
     have:=a2O (a2L hi)
     omega
    ·rw [List.getD_eq_getElem?_getD,List.getElem?_eq_none (by omega)]
     exact Nat.zero_le _
def BlOk (b:BlA) (m:List AV):Prop:=BlC b m∧b.ops.length + 1 ≤ T1 m∧b.upd.length + 1 ≤ T1 m∧∀ i,(b.ops.getD i default).l.length ≤ T1 m
theorem a1f {n:Nat} {l:List AV} (h:Shp ap n 58 l):∃ b,BlOk b l:=by
 cases n with
 | zero=>exact h.elim
 | succ n=>
  simp only [Shp,t58] at h
  obtain ⟨ps,rfl,hl,hp⟩:=h
  match ps,hl with
  | [q0,q1,q2],_=>
   obtain ⟨d,rfl⟩:=W0 (hp 0 _ _ rfl rfl)
   obtain ⟨ov,os,rfl,ho,hob,hol⟩:=ops_shape (hp 1 _ _ rfl rfl)
   obtain ⟨uv,us,rfl,hu,hub⟩:=a4m (hp 2 _ _ rfl rfl)
   have hbk:T1 ([[AV.int .i64 d],[ov],[uv]].flatten) = 1 + (ov.bulk + (uv.bulk + 0)):=rfl
   refine ⟨⟨d,os,us⟩,⟨ov,uv,rfl,ho,hu⟩,?_,?_,fun i=>?_⟩
   ·rw [hbk]; show os.length + 1 ≤ _; omega
   ·rw [hbk]; show us.length + 1 ≤ _; omega
   ·have:=hol i
    rw [hbk]; show (os.getD i default).l.length ≤ _; omega
def a3W (l:List BlA) (v:AV):Prop:=ElV 3 l.length (fun i cs=>BlC (l.getD i default) cs) v
theorem a3W.blv {l:List BlA} {v:AV} (h:a3W l v) (P:Nat) (S:Sto):BlV P S l v:=by
 obtain ⟨h1,h2,h3,h4⟩:=h
 refine ⟨h1,h2,T8 h3,fun i hi=>?_⟩
 obtain ⟨cs,a,b⟩:=h4 i hi
 exact ⟨.ip cs,cs,a,rfl,rfl, .inl rfl,b⟩
theorem blocks_shape {n:Nat} {l:List AV} (h:Shp ap n 25 l):∃ v bs,l = [v]∧a3W bs v∧bs.length + 1 ≤ v.bulk∧∀ i,(bs.getD i default).ops.length ≤ v.bulk∧(bs.getD i default).upd.length ≤ v.bulk∧∀ j,((bs.getD i default).ops.getD j default).l.length ≤ v.bulk:=by
 cases n with
 | zero=>exact h.elim
 | succ n=>
  simp only [Shp,t25] at h
  rcases h with rfl | ⟨ms,rfl,_,hm⟩
  ·exact ⟨_,[],rfl,a05,by simp [AV.bulk],fun i=>⟨Nat.zero_le _,Nat.zero_le _,fun j=>Nat.zero_le _⟩⟩
  ·obtain ⟨bs,h1,h2⟩:=all_of (default:BlA) (Q:=BlOk) (ms:=ms) fun m hmm=>a1f (hm m hmm)
   have hl:∀ m ∈ ms,m.length = 3:=fun m hmm=>by obtain ⟨o,⟨lv,uv,rfl,_⟩,_⟩:=a1f (hm m hmm); rfl
   have hb:=a0W (ms:=ms) fun m hmm=>by obtain ⟨o,_,hb,_⟩:=a1f (hm m hmm); omega
   rw [row_of (by omega) hl]
   refine ⟨_,bs,rfl,?_,?_,fun i=>?_⟩
   ·unfold a3W
    rw [h1]
    exact el_row (by omega) hl fun i hi=>(h2 i hi).1
   ·rw [AV.bulk]; omega
   ·rw [AV.bulk]
    by_cases hi:i < ms.length
    ·obtain ⟨_,e1,e2,e3⟩:=h2 i hi
     have:=a2O (a2L hi)
     exact ⟨by omega,by omega,fun j=>by have:=e3 j; omega⟩
    ·rw [List.getD_eq_getElem?_getD,List.getElem?_eq_none (by omega)]
     exact ⟨Nat.zero_le _,Nat.zero_le _,fun j=>Nat.zero_le _⟩
theorem texts_shape {n:Nat} {l:List AV} (h:Shp ap n 22 l):∃ v xs,l = [v]∧TxV xs v∧xs.length + 1 ≤ v.bulk∧∀ i,(xs.getD i ⟨#[]⟩).size ≤ v.bulk:=by
 cases n with
 | zero=>exact h.elim
 | succ n=>
  simp only [Shp,t22] at h
  rcases h with rfl | ⟨ms,rfl,_,hm⟩
  ·exact ⟨_,[],rfl,a05,by simp [AV.bulk],fun i=>Nat.zero_le _⟩
  ·obtain ⟨xs,h1,h2⟩:=all_of (⟨#[]⟩:ByteArray) (Q:=fun x m=>m = [.str x]) (ms:=ms) fun m hmm=>a01 (hm m hmm)
   have hl:∀ m ∈ ms,m.length = 1:=fun m hmm=>by obtain ⟨x,rfl⟩:=a01 (hm m hmm); rfl
   have hb:=a0W (ms:=ms) fun m hmm=>by obtain ⟨x,rfl⟩:=a01 (hm m hmm); simp [T1,AV.bulk]
   rw [row_of (by omega) hl]
   refine ⟨_,xs,rfl,?_,?_,fun i=>?_⟩
   ·unfold TxV
    rw [h1]
    exact el_row (by omega) hl h2
   ·rw [AV.bulk]; omega
   ·rw [AV.bulk]
    by_cases hi:i < ms.length
    ·have:=a2O (a2L hi)
     rw [h2 i hi] at this
     simp only [T1,AV.bulk] at this
     omega
    ·rw [List.getD_eq_getElem?_getD,List.getElem?_eq_none (by omega)]
     exact Nat.zero_le _
theorem inst_of:∀ ms:List (List AV),(∀ m ∈ ms,∃ x:Int × Int,m = [.int .i64 x.1, .int .i64 x.2])→∃ l,l.length = ms.length∧ms.flatten = Q5 l:=by
 intro ms
 induction ms with
 | nil=>exact fun _=>⟨[],rfl,rfl⟩
 | cons m r ih=>
  intro h
  obtain ⟨x,rfl⟩:=h m (by simp)
  obtain ⟨l,h1,h2⟩:=ih fun m hm=>h m (by simp [hm])
  exact ⟨x :: l,by simp [h1],by simp [Q5,h2]⟩
theorem a1i {n:Nat} {l:List AV} (h:Shp ap n 76 l):∃ v c,l = [v]∧a19 c v∧c.length + 1 ≤ v.bulk:=by
 cases n with
 | zero=>exact h.elim
 | succ n=>
  simp only [Shp,t76] at h
  rcases h with rfl | ⟨ms,rfl,_,hm⟩
  ·exact ⟨_,[],rfl, .inl ⟨rfl,rfl⟩,by simp [AV.bulk]⟩
  ·have hel:∀ m ∈ ms,∃ x:Int × Int,m = [.int .i64 x.1, .int .i64 x.2]:=fun m hmm=>by
    have h:=hm m hmm
    cases n with
    | zero=>exact h.elim
    | succ n=>
     simp only [Shp,t99] at h
     obtain ⟨ps,rfl,hl,hp⟩:=h
     match ps,hl with
     | [p,q],_=>
      obtain ⟨s,rfl⟩:=W0 (hp 0 _ _ rfl rfl)
      obtain ⟨t,rfl⟩:=W0 (hp 1 _ _ rfl rfl)
      exact ⟨(s,t),rfl⟩
   obtain ⟨c,h1,h2⟩:=inst_of ms hel
   have hl:∀ m ∈ ms,m.length = 2:=fun m hmm=>by obtain ⟨x,rfl⟩:=hel m hmm; rfl
   have hb:=a0W (ms:=ms) fun m hmm=>by obtain ⟨x,rfl⟩:=hel m hmm; simp [T1,AV.bulk]
   rw [row_of (by omega) hl]
   refine ⟨_,c,rfl, .inr ⟨[], .no,by rw [List.append_nil,h2,h1]⟩,?_⟩
   rw [AV.bulk]
   omega
theorem codes_shape {n:Nat} {l:List AV} (h:Shp ap n 23 l):∃ v cs,l = [v]∧CdV cs v∧cs.length + 1 ≤ v.bulk∧∀ i,(cs.getD i []).length ≤ v.bulk:=by
 cases n with
 | zero=>exact h.elim
 | succ n=>
  simp only [Shp,t23] at h
  rcases h with rfl | ⟨ms,rfl,_,hm⟩
  ·exact ⟨_,[],rfl,a05,by simp [AV.bulk],fun i=>Nat.zero_le _⟩
  ·obtain ⟨cs,h1,h2⟩:=all_of ([]:List (Int × Int)) (Q:=fun c m=>∃ w,m = [w]∧a19 c w∧c.length + 1 ≤ w.bulk) (ms:=ms) fun m hmm=>by
    obtain ⟨v,c,e1,e2,e3⟩:=a1i (hm m hmm)
    exact ⟨c,v,e1,e2,e3⟩
   have hl:∀ m ∈ ms,m.length = 1:=fun m hmm=>by obtain ⟨v,c,rfl,_⟩:=a1i (hm m hmm); rfl
   have hb:=a0W (ms:=ms) fun m hmm=>by obtain ⟨v,c,rfl,_,hb⟩:=a1i (hm m hmm); simp only [T1]; omega
   rw [row_of (by omega) hl]
   refine ⟨_,cs,rfl,?_,?_,fun i=>?_⟩
   ·unfold CdV
    rw [h1]
    exact el_row (by omega) hl fun i hi=>by obtain ⟨w,a,b,_⟩:=h2 i hi; exact ⟨w,a,b⟩
   ·rw [AV.bulk]; omega
   ·rw [AV.bulk]
    by_cases hi:i < ms.length
    ·obtain ⟨w,a,b,c⟩:=h2 i hi
     have:=a2O (a2L hi)
     rw [a] at this
     simp only [T1] at this
     omega
    ·rw [List.getD_eq_getElem?_getD,List.getElem?_eq_none (by omega)]
     exact Nat.zero_le _
theorem bulks_acells (ats:List (ByteArray × ByteArray)):T1 (R5 ats) = asz ats:=by
 induction ats with
 | nil=>rfl
 | cons x r ih=>simp only [R5,T1,AV.bulk,asz,ih]; omega
theorem atts_of:∀ ms:List (List AV),(∀ m ∈ ms,∃ x:ByteArray × ByteArray,m = [.str x.1, .str x.2])→∃ ats,ats.length = ms.length∧ms.flatten = R5 ats:=by
 intro ms
 induction ms with
 | nil=>exact fun _=>⟨[],rfl,rfl⟩
 | cons m r ih=>
  intro h
  obtain ⟨x,rfl⟩:=h m (by simp)
  obtain ⟨ats,h1,h2⟩:=ih fun m hm=>h m (by simp [hm])
  exact ⟨x :: ats,by simp [h1],by simp [R5,h2]⟩
theorem att_shape {n:Nat} {l:List AV} (h:Shp ap n 73 l):∃ a ats,l = [a]∧a2l ats a∧asz ats + 1 ≤ a.bulk:=by
 cases n with
 | zero=>exact h.elim
 | succ n=>
  simp only [Shp,t73] at h
  rcases h with rfl | ⟨ms,rfl,_,hm⟩
  ·exact ⟨_,[],rfl, .inl ⟨rfl,rfl⟩,by simp [asz,AV.bulk]⟩
  ·obtain ⟨ats,h1,h2⟩:=atts_of ms fun m hmm=>by
    have h:=hm m hmm
    cases n with
    | zero=>exact h.elim
    | succ n=>
     simp only [Shp,t133] at h
     obtain ⟨ps,rfl,hl,hp⟩:=h
     match ps,hl with
     | [p,q],_=>
      obtain ⟨s,rfl⟩:=a01 (hp 0 _ _ rfl rfl)
      obtain ⟨t,rfl⟩:=a01 (hp 1 _ _ rfl rfl)
      exact ⟨(s,t),rfl⟩
   have hc:=Z4 ats
   refine ⟨_,ats,rfl,?_⟩
   rw [rowAV_at (by rw [h2,hc]; omega),h2,←h1]
   refine ⟨.inr ⟨[], .no,by simp⟩,?_⟩
   rw [AV.bulk,bulks_acells]
   exact Nat.le_refl _
def TreeCells (m:List AV):Prop:=∃ tag text a k ats kids,m = [.str tag, .str text,a,k]∧a2l ats a∧asz ats + 1 ≤ a.bulk∧FoV kids k∧kids.sz + 1 ≤ k.bulk
theorem trees_of:∀ ms:List (List AV),(∀ m ∈ ms,TreeCells m)→∃ ts:Fo,ts.len = ms.length∧Row ts ms.flatten∧ts.sz ≤ T1 ms.flatten∧ms.flatten.length = 4 * ms.length:=by
 intro ms
 induction ms with
 | nil=>exact fun _=>⟨.nil,rfl,trivial,by simp [Fo.sz],rfl⟩
 | cons m r ih=>
  intro h
  obtain ⟨tag,text,a,k,ats,kids,rfl,h1,h2,h3,h4⟩:=h m (by simp)
  obtain ⟨ts,k1,k2,k3,k4⟩:=ih fun m hm=>h m (by simp [hm])
  refine ⟨.cons tag text ats kids ts,by simp [Fo.len,k1],⟨a,k,r.flatten,rfl,h1,h3,k2⟩,?_,?_⟩
  ·rw [List.flatten_cons,a1z]
   simp only [Fo.sz,T1,AV.bulk]
   omega
  ·rw [List.flatten_cons,List.length_append,k4]
   simp
   omega
theorem fo_shape:∀ (n:Nat) (l:List AV),Shp ap n 24 l→∃ v ts,l = [v]∧FoM ts v∧ts.sz + 1 ≤ v.bulk∧v.isCell = true∧∀ row m k,v ≠ .is row m (.cut k):=by
 intro n
 induction n using Nat.strongRecOn with
 | ind n ih=>
  intro l h
  cases n with
  | zero=>exact h.elim
  | succ n=>
   simp only [Shp,t24] at h
   rcases h with rfl | ⟨ms,rfl,_,hm⟩
   ·exact ⟨_, .nil,rfl, .inl ⟨rfl,rfl⟩,by simp [Fo.sz,AV.bulk],rfl,fun _ _ _ h=>by cases h⟩
   ·obtain ⟨ts,h1,h2,h3,h4⟩:=trees_of ms fun m hmm=>by
     have h:=hm m hmm
     cases n with
     | zero=>exact h.elim
     | succ n=>
      simp only [Shp,t75] at h
      obtain ⟨ps,rfl,hl,hp⟩:=h
      match ps,hl with
      | [p,q,r,s],_=>
       obtain ⟨x,rfl⟩:=a01 (hp 0 _ _ rfl rfl)
       obtain ⟨y,rfl⟩:=a01 (hp 1 _ _ rfl rfl)
       obtain ⟨a,ats,rfl,ha,hb⟩:=att_shape (hp 2 _ _ rfl rfl)
       obtain ⟨k,kids,rfl,hk,hkb,_⟩:=ih n (by omega) _ (hp 3 _ _ rfl rfl)
       exact ⟨x,y,a,k,ats,kids,rfl,ha,hb,hk.fov,hkb⟩
    refine ⟨_,ts,rfl,?_⟩
    rw [rowAV_at (by omega),←h1]
    refine ⟨.inr ⟨_,_,rfl,?_,h2⟩,?_,rfl,fun _ _ _ h=>by cases h⟩
    ·show ms.flatten.length = ts.len * 4
     omega
    ·rw [AV.bulk]
     omega
structure Read (p:PrA) (tx cd sx bl:AV):Prop where
 hsm:W2 p
 htx:TxV p.texts tx
 hcd:CdV p.codes cd
 hsx:FoM p.statics sx
 hbl:a3W p.blocks bl
 hcut:∀ row n m,sx ≠ .is row n (.cut m)
 hcell:sx.isCell = true
 hsz:p.statics.sz ≤ 1048576
theorem prog_shape {n:Nat} {l:List AV} (h:Shp ap n 27 l) (hb:T1 l ≤ 1048576):∃ p tx cd sx bl,l = [tx,cd,sx,bl]∧Read p tx cd sx bl:=by
 cases n with
 | zero=>exact h.elim
 | succ n=>
  simp only [Shp,t27] at h
  obtain ⟨ps,rfl,hl,hp⟩:=h
  match ps,hl with
  | [q0,q1,q2,q3],_=>
   obtain ⟨tx,ts,rfl,a1,a2,a3⟩:=texts_shape (hp 0 _ _ rfl rfl)
   obtain ⟨cd,cs,rfl,b1,b2,b3⟩:=codes_shape (hp 1 _ _ rfl rfl)
   obtain ⟨sx,fo,rfl,c1,c2,c3,c4⟩:=fo_shape n _ (hp 2 _ _ rfl rfl)
   obtain ⟨bl,bs,rfl,d1,d2,d3⟩:=blocks_shape (hp 3 _ _ rfl rfl)
   have hbk:T1 ([[tx],[cd],[sx],[bl]].flatten) = tx.bulk + (cd.bulk + (sx.bulk + (bl.bulk + 0))):=rfl
   rw [hbk] at hb
   refine ⟨⟨ts,cs,fo,bs⟩,tx,cd,sx,bl,rfl,⟨⟨?_,fun i=>?_,?_,fun i=>?_,?_,?_,fun i=>⟨?_,?_⟩,fun i j=>?_⟩,a1,b1,c1,d1,c4,c3,by show fo.sz ≤ _; omega⟩⟩
   ·show ts.length ≤ _; omega
   ·have:=a3 i; show (ts.getD i ⟨#[]⟩).size ≤ _; omega
   ·show cs.length ≤ _; omega
   ·have:=b3 i; show (cs.getD i []).length ≤ _; omega
   ·show fo.sz ≤ _; omega
   ·show bs.length ≤ _; omega
   ·have:=(d3 i).1; show (bs.getD i default).ops.length ≤ _; omega
   ·have:=(d3 i).2.1; show (bs.getD i default).upd.length ≤ _; omega
   ·have:=(d3 i).2.2 j; show ((bs.getD i default).ops.getD j default).l.length ≤ _; omega
theorem a2G (a:Int) (st:Sto):O1 ap 8 [.int .i64 a] st = some (.ret (.int .i64 a),st):=by
 rw [D9.call]
 exact O7 (D9.b_eq a st) rfl rfl (O5.refl _ _)
def ShalOk (ts:Fo):Prop:=∀ (row:List AV) (n i d:Nat) (tok:Tok) (st:Sto),Row ts (row.drop (i * 4))→n = i + ts.len→n ≤ 1050000→1 ≤ d→d ≤ 4096 →
 ∃ b,w7.F0 (.is row n tok) (d:Int) ((i:Nat):Int) st = some ⟨.ret (.bool b),none,st⟩
theorem shal_of {ts:Fo} (H:ShalOk ts) {v:AV} (hv:FoV ts v) (hs:ts.sz ≤ 1050000) {d:Nat} (hd:d ≤ 4096) (st:Sto):∃ b,O1 ap 11 [v, .int .i64 (d:Int)] st = some (.ret (.bool b),st):=by
 suffices h:∃ b,w7.b v (d:Int) st = some ⟨.ret (.bool b),none,st⟩ by
  obtain ⟨b,h⟩:=h
  exact ⟨b,by rw [w7.call]; exact O7 h rfl rfl (O5.refl _ _)⟩
 rw [w7.b_eq]
 by_cases h0:d = 0
 ·subst h0
  simp only [Int.natCast_zero,decide_true,cond_true,hv.len,Option.bind_some]
  exact ⟨_,rfl⟩
 ·have h0':¬ ((d:Int) = 0):=by omega
  simp only [h0',decide_false,cond_false]
  rcases hv with ⟨h0,rfl⟩ | ⟨row,tok,rfl,hr⟩
  ·rw [w7.F0_e]
   exact ⟨true,by simp [P3]⟩
  ·have hl:=a1b ts
   have:=H row ts.len 0 d tok st (by simpa using hr) (by omega) (by omega) (by omega) hd
   simpa using this
theorem shal_all (ts:Fo) (hs:ts.sz ≤ 1050000):ShalOk ts:=by
 induction ts with
 | nil=>
  intro row n i d tok st hr hn hb h1 hd
  simp only [Fo.len] at hn
  rw [w7.F0_e]
  have hlt:¬ (((i:Nat):Int) < ((n:Nat):Int)):=by omega
  refine ⟨true,?_⟩
  simp only [P3,Option.bind_some,hlt,decide_false,cond_false]
 | cons tag text ats kids rest ihk ihr=>
  intro row n i d tok st hr hn hb h1 hd
  simp only [Fo.len] at hn
  simp only [Fo.sz] at hs
  obtain ⟨a,k,ha,hk,hr',hlen,hia⟩:=a4J hr
  have hia:=hia n tok (by omega)
  have wi:IntKind.wrap .i64 ((i:Int) + 1) = ((i + 1:Nat):Int):=w64 _ (by omega) (by omega)
  have wd:IntKind.wrap .i64 ((d:Int) - 1) = ((d - 1:Nat):Int):=w64 _ (by omega) (by omega)
  have hlt:(((i:Nat):Int) < ((n:Nat):Int)):=by omega
  obtain ⟨b,hb'⟩:=shal_of (ihk (by omega)) hk (by omega) (d:=d - 1) (by omega) st
  rw [w7.F0_e]
  simp only [P3,Option.bind_some,hlt,decide_true,cond_true,hia,f3,l1,wd,hb',Out.on,asB,wi]
  cases b with
  | false=>exact ⟨false,rfl⟩
  | true=>exact ihr (by omega) row n (i + 1) d tok st hr' (by omega) hb h1 hd
theorem shallow_spec {ts:Fo} {v:AV} (hv:FoV ts v) (hs:ts.sz ≤ 1050000) (st:Sto):∃ b,O1 ap 4 [v] st = some (.ret (.bool b),st):=by
 obtain ⟨b,h⟩:=shal_of (shal_all ts hs) hv hs (d:=4096) (by omega) st
 refine ⟨b,?_⟩
 rw [A3.call]
 refine O7 ?_ rfl rfl (O5.refl _ _)
 rw [A3.b_eq]
 exact cr h
def swT:AV := .is [.str ⟨#[97]⟩, .str ⟨#[112]⟩] 2 .full
def swO:List AV:=[.int .i64 3, .int .i64 1, .int .i64 0, .int .i64 0, .nils, .int .i64 1, .int .i64 0, .int .i64 0, .int .i64 0, .nils, .int .i64 6, .int .i64 0, .int .i64 0, .int .i64 0, .nils]
def swU:AV := .is [.int .i64 1] 1 .full
def swB (ov:AV):AV := .is [.int .i64 1,ov,swU] 1 .no
theorem run1:O1 ap 6 [.agg [swT, .nils, .nils,swB (.is swO 3 .full)]] [] = some (.ret (.tup [.int .i64 0, .int .i64 0, .int .i64 0]),[]):=ev_call 100000 (by kernel_rfl)
theorem run2:O1 ap 6 [.agg [swT, .nils, .nils,swB (.is swO 2 (.cut 3))]] [] = some (.ret (.tup [.int .i64 0, .int .i64 2, .int .i64 2204]),[]):=ev_call 100000 (by kernel_rfl)
theorem run3:O1 ap 6 [.agg [.nils, .nils, .nils, .nils]] [] = some (.ret (.tup [.int .i64 0, .int .i64 0, .int .i64 2205]),[]):=ev_call 100000 (by kernel_rfl)
end Go.Proofs.YtcgepgahgihojaaGreatDoor
namespace Go.Proofs.YtcgepgahgihojaaGreatDoor
open Go.St Go.Lib
set_option linter.unusedVariables false
set_option linter.unusedSimpArgs false
def o3:OpA:=⟨3,1,0,0,[]⟩
def o1:OpA:=⟨1,0,0,0,[]⟩
def o6:OpA:=⟨6,0,0,0,[]⟩
def pA:PrA:=⟨[⟨#[97]⟩,⟨#[112]⟩],[], .nil,[⟨1,[o3,o1,o6],[1]⟩]⟩
def pB:PrA:=⟨[⟨#[97]⟩,⟨#[112]⟩],[], .nil,[⟨1,[o3,o1],[1]⟩]⟩
def pC:PrA:=⟨[],[], .nil,[]⟩
theorem getD_le {α:Type} {d:α} {f:α→Nat} {b:Nat}:∀ {l:List α},(∀ x ∈ l,f x ≤ b)→f d ≤ b→∀ i,f (l.getD i d) ≤ b:=by
 intro l
 induction l with
 | nil=>intro _ h i; exact h
 | cons x r ih=>
  intro h hd i
  cases i with
  | zero=>exact h x (by simp)
  | succ i=>exact ih (fun y hy=>h y (by simp [hy])) hd i
theorem small_of {p:PrA} (h1:p.texts.length ≤ 1000) (h2:∀ t ∈ p.texts,t.size ≤ 1000) (h3:p.codes = []) (h4:p.statics = .nil) (h5:p.blocks.length ≤ 1000) (h6:∀ b ∈ p.blocks,b.ops.length ≤ 1000∧b.upd.length ≤ 1000∧∀ o ∈ b.ops,o.l.length ≤ 1000):W2 p:=by
 refine ⟨by omega,fun i=>?_,by rw [h3]; exact Nat.zero_le _,fun i=>by rw [h3]; exact Nat.zero_le _,by rw [h4]; simp [Fo.sz],by omega,fun i=>⟨?_,?_⟩,fun i j=>?_⟩
 ·have:=getD_le (d:=(⟨#[]⟩:ByteArray)) (f:=ByteArray.size) h2 (show (0:Nat) ≤ 1000 by omega) i; omega
 ·have:=getD_le (d:=(default:BlA)) (f:=fun b=>b.ops.length) (fun b hb=>(h6 b hb).1) (Nat.zero_le _) i; omega
 ·have:=getD_le (d:=(default:BlA)) (f:=fun b=>b.upd.length) (fun b hb=>(h6 b hb).2.1) (Nat.zero_le _) i; omega
 ·by_cases hi:i < p.blocks.length
  ·have hm:p.blocks.getD i default ∈ p.blocks:=by
    rw [List.getD_eq_getElem?_getD,List.getElem?_eq_getElem hi]
    exact List.getElem_mem hi
   have:=getD_le (d:=(default:OpA)) (f:=fun o=>o.l.length) (h6 _ hm).2.2 (Nat.zero_le _) j
   omega
  ·have e:p.blocks.getD i default = default:=by rw [List.getD_eq_getElem?_getD,List.getElem?_eq_none (by omega)]; rfl
   rw [e]
   exact Nat.zero_le _
theorem smallA:W2 pA:=small_of (by decide) (by decide) rfl rfl (by decide) (by decide)
theorem smallB:W2 pB:=small_of (by decide) (by decide) rfl rfl (by decide) (by decide)
theorem smallC:W2 pC:=small_of (by decide) (by decide) rfl rfl (by decide) (by decide)
theorem txA:TxV pA.texts swT:=⟨rfl,rfl,rfl,fun i hi=>by
 have:i = 0∨i = 1:=by simp [pA] at hi; omega
 rcases this with rfl | rfl
 ·exact ⟨_,rfl,rfl⟩
 ·exact ⟨_,rfl,rfl⟩⟩
theorem txC:TxV pC.texts .nils:=a05
theorem cdA:CdV ([]:List (List (Int × Int))) .nils:=a05
theorem sxA:FoM .nil .nils := .inl ⟨rfl,rfl⟩
theorem opsA3:a2U [o3,o1,o6] (.is swO 3 .full):=⟨rfl,rfl,rfl,fun i hi=>by
 have:i = 0∨i = 1∨i = 2:=by simp at hi; omega
 rcases this with rfl | rfl | rfl
 ·exact ⟨_,rfl, .nils,rfl,a05⟩
 ·exact ⟨_,rfl, .nils,rfl,a05⟩
 ·exact ⟨_,rfl, .nils,rfl,a05⟩⟩
theorem opsA2:a2U [o3,o1] (.is swO 2 (.cut 3)):=⟨rfl,rfl,rfl,fun i hi=>by
 have:i = 0∨i = 1:=by simp at hi; omega
 rcases this with rfl | rfl
 ·exact ⟨_,rfl, .nils,rfl,a05⟩
 ·exact ⟨_,rfl, .nils,rfl,a05⟩⟩
theorem updA:W4 [1] swU:=⟨rfl,rfl,rfl,fun i hi=>by
 obtain rfl:i = 0:=by simpa using hi
 exact ⟨_,rfl,rfl⟩⟩
theorem blA {ops:List OpA} {ov:AV} (h:a2U ops ov):a3W [⟨1,ops,[1]⟩] (swB ov):=⟨rfl,rfl,rfl,fun i hi=>by
 obtain rfl:i = 0:=by simpa using hi
 exact ⟨_,rfl,ov,swU,rfl,h,updA⟩⟩
theorem blM {ops:List OpA} {ov:AV} (h:a2U ops ov) {st:Sto} {id P:Nat} (hid:st[id]? = some (.cells 0 [.int .i64 1,ov,swU] 0)) (hP:id < P):BlV P st [⟨1,ops,[1]⟩] (.ms id 0 0 1 3):=⟨rfl,rfl,rfl,fun i hi=>by
 obtain rfl:i = 0:=by simpa using hi
 exact ⟨.mp id 0 0,[.int .i64 1,ov,swU],rfl,rfl,rfl, .inr ⟨id,0,0,_,0,hP,rfl,hid,fun k c hk=>by rw [Nat.zero_add]; exact hk⟩,ov,swU,rfl,h,updA⟩⟩
theorem tup3_inj {e:Nat × Nat × Nat} {a b c:Nat} (h:tup3 e = .tup [.int .i64 ((a:Nat):Int), .int .i64 ((b:Nat):Int), .int .i64 ((c:Nat):Int)]):e = (a,b,c):=by
 unfold tup3 at h
 simp only [AV.tup.injEq,List.cons.injEq,AV.int.injEq,true_and,and_true] at h
 obtain ⟨h1,h2,h3⟩:=h
 obtain ⟨x,y,z⟩:=e
 simp only at h1 h2 h3
 have e1:x = a:=by omega
 have e2:y = b:=by omega
 have e3:z = c:=by omega
 rw [e1,e2,e3]
theorem a4F:∀ (row:List AV) (n m:Nat),(AV.nils) = .is row n (.cut m)→n ≤ m:=fun _ _ _ h=>by cases h
theorem verA_A:verA pA = (0,0,0):=by
 have h:=W5 smallA a4F (st:=[]) txA cdA sxA ((blA opsA3).blv _ _) rfl
 rw [run1] at h
 simp only [Option.some.injEq,Prod.mk.injEq,Out.ret.injEq,and_true] at h
 exact tup3_inj h.symm
theorem verA_B:verA pB = (0,2,2204):=by
 have h:=W5 smallB a4F (st:=[]) (p:=pB) txA cdA sxA ((blA opsA2).blv _ _) rfl
 rw [run2] at h
 simp only [Option.some.injEq,Prod.mk.injEq,Out.ret.injEq,and_true] at h
 exact tup3_inj h.symm
theorem verA_C:verA pC = (0,0,2205):=by
 have h:=W5 smallC a4F (st:=[]) (p:=pC) txC cdA sxA (a3W.blv (l:=[]) a05 _ _) rfl
 rw [run3] at h
 simp only [Option.some.injEq,Prod.mk.injEq,Out.ret.injEq,and_true] at h
 exact tup3_inj h.symm
theorem a4r (st:Sto):O1 ap 25 [] st = some (.ret (.agg [swT, .nils, .nils, .ms (st.length + 1) 0 0 1 3]),(st ++ [Ob.cells 0 [swT, .nils, .nils, .ms (st.length + 1) 0 0 1 3] 0]) ++ [Ob.cells 0 [.int .i64 1, .is swO 3 .full,swU] 0]):=by
 obtain ⟨S0,hS0⟩:∃ S0,S0 = st ++ [Ob.cells 0 [.nils, .nils, .nils, .nils] 0]:=⟨_,rfl⟩
 have hl0:S0.length = st.length + 1:=by rw [hS0]; simp
 have a1:(S8 false 2 1 (O9 (fun i=>some (i * 1,1)) [.str ⟨#[]⟩, .str ⟨#[]⟩] [(0,(.str ⟨#[97]⟩)),(1,(.str ⟨#[112]⟩))]) S0) = some (swT,S0):=rfl
 have a8:(S8 true 1 3 (O9 (fun i=>some (i * 3,3)) [.int .i64 0, .nils, .nils] [(0, .agg [.int .i64 1, .is swO 3 .full,swU])]) S0) = some (.ms (st.length + 1) 0 0 1 3,S0 ++ [Ob.cells 0 [.int .i64 1, .is swO 3 .full,swU] 0]):=by
  have:(O9 (fun i=>some (i * 3,3)) [.int .i64 0, .nils, .nils] [(0, .agg [.int .i64 1, .is swO 3 .full,swU])]) = some [.int .i64 1, .is swO 3 .full,swU]:=rfl
  rw [this,←hl0]
  simp [S8]
 have a9:(X3 (O9 (fun i=>([(0,1),(1,1),(2,1),(3,1)]:List (Nat × Nat))[i]?) [.nils, .nils, .nils, .nils] [(0,swT),(3, .ms (st.length + 1) 0 0 1 3)])) = some (.agg [swT, .nils, .nils, .ms (st.length + 1) 0 0 1 3]):=rfl
 have a10:sto 4 (S0 ++ [Ob.cells 0 [.int .i64 1, .is swO 3 .full,swU] 0]) (.mp st.length 0 0) (.agg [swT, .nils, .nils, .ms (st.length + 1) 0 0 1 3]) = some ((st ++ [Ob.cells 0 [swT, .nils, .nils, .ms (st.length + 1) 0 0 1 3] 0]) ++ [Ob.cells 0 [.int .i64 1, .is swO 3 .full,swU] 0]):=by
  have hg:(S0 ++ [Ob.cells 0 [.int .i64 1, .is swO 3 .full,swU] 0])[st.length]? = some (.cells 0 [.nils, .nils, .nils, .nils] 0):=by rw [hS0,List.append_assoc]; simp
  unfold sto
  rw [show (AV.agg [swT, .nils, .nils, .ms (st.length + 1) 0 0 1 3]).cells = [swT, .nils, .nils, .ms (st.length + 1) 0 0 1 3] from rfl,if_pos (show ([swT, .nils, .nils, .ms (st.length + 1) 0 0 1 3]:List AV).length = 4 from rfl)]
  simp only [W6,hg]
  rw [if_pos ⟨trivial,Nat.zero_le _,(by show 0 + 4 ≤ 4; omega),rfl⟩,hS0,List.append_assoc,List.set_append_right _ _ (Nat.le_refl _),Nat.sub_self,List.append_assoc]
  rfl
 have a11:ld true 4 ((st ++ [Ob.cells 0 [swT, .nils, .nils, .ms (st.length + 1) 0 0 1 3] 0]) ++ [Ob.cells 0 [.int .i64 1, .is swO 3 .full,swU] 0]) (.mp st.length 0 0) = some (.agg [swT, .nils, .nils, .ms (st.length + 1) 0 0 1 3]):=Z7 (g:=0) (fz:=0) (by rw [List.append_assoc]; simp) rfl
 have hb:stencillaw22_small.b st = some ⟨.ret (.agg [swT, .nils, .nils, .ms (st.length + 1) 0 0 1 3]),none,(st ++ [Ob.cells 0 [swT, .nils, .nils, .ms (st.length + 1) 0 0 1 3] 0]) ++ [Ob.cells 0 [.int .i64 1, .is swO 3 .full,swU] 0]⟩:=by
  rw [stencillaw22_small.b_eq,←hS0]
  refine (br a1).trans ?_
  refine (br (show _ = some (AV.agg [.int .i64 3, .int .i64 1, .int .i64 0, .int .i64 0, .nils]) from rfl)).trans ?_
  refine (br (show _ = some (AV.agg [.int .i64 1, .int .i64 0, .int .i64 0, .int .i64 0, .nils]) from rfl)).trans ?_
  refine (br (show _ = some (AV.agg [.int .i64 6, .int .i64 0, .int .i64 0, .int .i64 0, .nils]) from rfl)).trans ?_
  refine (br (show _ = some (AV.is swO 3 .full,S0) from rfl)).trans ?_
  refine (br (show _ = some (swU,S0) from rfl)).trans ?_
  refine (br (show _ = some (AV.agg [.int .i64 1, .is swO 3 .full,swU]) from rfl)).trans ?_
  refine (br a8).trans ?_
  refine (br a9).trans ?_
  refine (br a10).trans ?_
  exact br a11
 rw [stencillaw22_small.call,hb]
 simp only [Option.bind_some]
 unfold gc
 rw [if_neg]
 rintro ⟨h,_⟩
 simp only [Out.val,AV.strip,strips,AV.old,olds,Bool.and_eq_true,decide_eq_true_eq] at h
 obtain ⟨_,_,_,h,_⟩:=h
 omega
theorem awake_spec (st:Sto):O1 ap 10 [] st = some (.ret (.bool true),st):=by
 rw [stencillaw22_awake.call]
 suffices hb:∃ S',stencillaw22_awake.b st = some ⟨.ret (.bool true),none,S'⟩∧O5 st.length st S' by
  obtain ⟨S',k1,k2⟩:=hb
  exact O7 k1 rfl rfl k2
 obtain ⟨S1,hS1⟩:∃ S1,S1 = (st ++ [Ob.cells 0 [swT, .nils, .nils, .ms (st.length + 1) 0 0 1 3] 0]) ++ [Ob.cells 0 [.int .i64 1, .is swO 3 .full,swU] 0]:=⟨_,rfl⟩
 have c1:=a4r st
 rw [←hS1] at c1
 have hl1:S1.length = st.length + 2:=by rw [hS1]; simp
 have k1:O5 st.length st S1:=by rw [hS1,List.append_assoc]; exact O5.app (Nat.le_refl _)
 have g1:S1[st.length + 1]? = some (.cells 0 [.int .i64 1, .is swO 3 .full,swU] 0):=by rw [hS1,List.append_assoc]; simp
 have v1:=W5 smallA a4F (st:=S1) txA cdA sxA (blM opsA3 g1 (by omega)) rfl
 rw [verA_A] at v1
 obtain ⟨S2,hS2⟩:∃ S2,S2 = (S1 ++ [Ob.cells 0 [swT, .nils, .nils, .ms (S1.length + 1) 0 0 1 3] 0]) ++ [Ob.cells 0 [.int .i64 1, .is swO 3 .full,swU] 0]:=⟨_,rfl⟩
 have c2:=a4r S1
 rw [←hS2] at c2
 have hl2:S2.length = S1.length + 2:=by rw [hS2]; simp
 have k2:O5 st.length S1 S2:=by rw [hS2,List.append_assoc]; exact O5.app (by omega)
 obtain ⟨S3,hS3⟩:∃ S3,S3 = S2 ++ [Ob.cells 0 [swT, .nils, .nils, .ms (S1.length + 1) 0 0 1 3] 0]:=⟨_,rfl⟩
 have s3:sto 4 (S2 ++ [Ob.cells 0 [.nils, .nils, .nils, .nils] 0]) (.mp S2.length 0 0) (.agg [swT, .nils, .nils, .ms (S1.length + 1) 0 0 1 3]) = some S3:=by rw [hS3]; exact a3P (cs:=[.nils, .nils, .nils, .nils]) (cs':=[swT, .nils, .nils, .ms (S1.length + 1) 0 0 1 3]) rfl rfl rfl
 have k3:O5 st.length S2 S3:=by rw [hS3]; exact O5.app (by omega)
 have gp:S3[S2.length]? = some (.cells 0 [swT, .nils, .nils, .ms (S1.length + 1) 0 0 1 3] 0):=by rw [hS3]; simp
 have gb:S3[S1.length + 1]? = some (.cells 0 [.int .i64 1, .is swO 3 .full,swU] 0):=by rw [hS3]; exact P8 (by rw [hS2,List.append_assoc]; simp)
 have hl3:S3.length = S2.length + 1:=by rw [hS3]; simp
 have r3:ld false 1 S3 (.mp S2.length 0 3) = some (.ms (S1.length + 1) 0 0 1 3):=O8 gp rfl
 have ri:ia 3 (.ms (S1.length + 1) 0 0 1 3) (.int .i64 0) = some (.mp (S1.length + 1) 0 0):=rfl
 have rf:fa 1 1 (.mp (S1.length + 1) 0 0) = some (.mp (S1.length + 1) 0 1):=rfl
 have ro:ld false 1 S3 (.mp (S1.length + 1) 0 1) = some (.is swO 3 .full):=O8 gb rfl
 have rc:a06 5 (.is swO 3 .full) none (some (.int .i64 2)) = some (.is swO 2 (.cut 3)):=rfl
 obtain ⟨S4,hS4⟩:∃ S4,S4 = S3.set (S1.length + 1) (.cells 0 [.int .i64 1, .is swO 2 (.cut 3),swU] 0):=⟨_,rfl⟩
 have s4:sto 1 S3 (.mp (S1.length + 1) 0 1) (.is swO 2 (.cut 3)) = some S4:=by
  rw [U8 gb (by decide) rfl rfl,hS4]
  rfl
 have k4:O5 st.length S3 S4:=by rw [hS4]; exact O5.set (by omega)
 have gp4:ld true 4 S4 (.mp S2.length 0 0) = some (.agg [swT, .nils, .nils, .ms (S1.length + 1) 0 0 1 3]):=Z7 (g:=0) (fz:=0) (by rw [hS4,List.getElem?_set_ne (by omega)]; exact gp) rfl
 have gb4:S4[S1.length + 1]? = some (.cells 0 [.int .i64 1, .is swO 2 (.cut 3),swU] 0):=by rw [hS4]; exact List.getElem?_set_self (by omega)
 have hl4:S4.length = S3.length:=by rw [hS4]; simp
 have v2:=W5 smallB a4F (st:=S4) (p:=pB) txA cdA sxA (blM opsA2 gb4 (by omega)) rfl
 rw [verA_B] at v2
 have v3:=W5 smallC a4F (st:=S4) (p:=pC) txC cdA sxA (a3W.blv (l:=[]) a05 _ _) rfl
 rw [verA_C] at v3
 refine ⟨S4,?_,k1.trans (k2.trans (k3.trans k4))⟩
 rw [stencillaw22_awake.b_eq]
 refine (cr c1).trans ?_
 refine (cr v1).trans ?_
 refine (br (x0 _ _)).trans ?_
 refine (br (x1 _ _ _)).trans ?_
 refine (br (x2 _ _ _ _)).trans ?_
 refine (cr c2).trans ?_
 refine (br s3).trans ?_
 refine (br r3).trans ?_
 refine (br r3).trans ?_
 refine (br ri).trans ?_
 refine (br rf).trans ?_
 refine (br ro).trans ?_
 refine (br rc).trans ?_
 refine (br ri).trans ?_
 refine (br rf).trans ?_
 refine (br s4).trans ?_
 refine (br gp4).trans ?_
 refine (cr v2).trans ?_
 refine (br (x0 _ _)).trans ?_
 refine (br (x1 _ _ _)).trans ?_
 refine (br (x2 _ _ _ _)).trans ?_
 refine (br (show _ = some (AV.agg [.nils, .nils, .nils, .nils]) from rfl)).trans ?_
 refine (cr v3).trans ?_
 refine (br (x0 _ _)).trans ?_
 refine (br (x1 _ _ _)).trans ?_
 refine (br (x2 _ _ _ _)).trans ?_
 refine (cr (a2G _ S4)).trans ?_
 refine (br (aI _)).trans ?_
 refine (bt rfl).trans ?_
 refine (cr (a2G _ S4)).trans ?_
 refine (br (aI _)).trans ?_
 refine (bt rfl).trans ?_
 refine (br (aI _)).trans ?_
 refine (bt rfl).trans ?_
 refine (cr (a2G _ S4)).trans ?_
 exact br (aI _)
end Go.Proofs.YtcgepgahgihojaaGreatDoor
namespace Go.Proofs.YtcgepgahgihojaaGreatDoor
open Go.St Go.Lib
set_option linter.unusedVariables false
set_option linter.unusedSimpArgs false
def a3H (s:ByteArray) (i:Nat):Bool:=decide (i < s.size) && (decide (128 ≤ bat s i) && decide (bat s i < 192))
theorem tail_spec (s:ByteArray) (i:Nat) (st:Sto):O1 ap 107 [.str s, .int .i64 (i:Int)] st = some (.ret (.bool (a3H s i)),st):=by
 rw [D7.call]
 refine O7 ?_ rfl rfl (O5.refl _ _)
 rw [D7.b_eq]
 unfold a3H
 by_cases h:i < s.size
 ·have h':((i:Int) < ((s.size:Nat):Int)):=by omega
  simp only [h',h,decide_true,cond_true,P9 h,Option.bind_some,Y0,Bool.true_and]
  by_cases h1:128 ≤ bat s i
  ·have h1':(128:Int) ≤ (bat s i:Int):=by omega
   have h2:((bat s i:Int) < 192) = (bat s i < 192):=propext ⟨fun h=>by omega,fun h=>by omega⟩
   simp only [h1,h1',h2,decide_true,cond_true,Bool.true_and]
  ·have h1':¬ (128:Int) ≤ (bat s i:Int):=by omega
   simp only [h1,h1',decide_false,cond_false,Bool.false_and]
 ·have h':¬ ((i:Int) < ((s.size:Nat):Int)):=by omega
  simp only [h',h,decide_false,cond_false,Bool.false_and]
def len3 (s:ByteArray) (i:Nat):Nat:=U7 (s.size - i) (bat s i) (bat s (i + 1)) (bat s (i + 2)) (bat s (i + 3))
theorem len3_eq (s:ByteArray) (i:Nat):len3 s i = if Bad s i then 0 else (dec s i).2:=by
 unfold len3
 rw [lengthN_eq _ _ _ _ _ (a0d _ _) (a0d _ _) (a0d _ _) (a0d _ _),←a2A]
 by_cases h:(dec s i).2 = 1∧128 ≤ bat s i
 ·rw [if_pos h,if_pos (show Bad s i from h)]
 ·rw [if_neg h,if_neg (show ¬ Bad s i from h)]
set_option maxRecDepth 100000 in
set_option maxHeartbeats 8000000 in
theorem a3l (s:ByteArray) (i:Nat) (hi:i < s.size) (hs:s.size < 9223372036854775800) (st:Sto):O1 ap 97 [.str s, .int .i64 (i:Int)] st = some (.ret (.int .i64 (len3 s i:Nat)),st):=by
 rw [g8.call]
 refine O7 ?_ rfl rfl (O5.refl _ _)
 have key:∀ (k:Nat) (x:Int),x = k→len3 s i = k→(some ⟨.ret (.int .i64 x),none,st⟩:Option Res) = some ⟨.ret (.int .i64 (len3 s i:Nat)),none,st⟩:=by rintro k x rfl h; rw [h]
 have w1:IntKind.wrap .i64 ((i:Int) + 1) = ((i + 1:Nat):Int):=w64 _ (by omega) (by omega)
 have w2:IntKind.wrap .i64 ((i:Int) + 2) = ((i + 2:Nat):Int):=w64 _ (by omega) (by omega)
 have w3:IntKind.wrap .i64 ((i:Int) + 3) = ((i + 3:Nat):Int):=w64 _ (by omega) (by omega)
 have hb0:=a0d s i
 rw [g8.b_eq]
 simp only [P9 hi,Option.bind_some,Y0,w1,tail_spec,Out.on,pickK,asB,cond_true,g8.G6_e,g8.N4_e,g8.L1_e,g8.M5_e,g8.K7_e,w2,w3,R3,gOn,cond_false]
 have cls:bat s i < 128∨(128 ≤ bat s i∧bat s i < 194)∨(194 ≤ bat s i∧bat s i < 224)∨bat s i = 224∨(225 ≤ bat s i∧bat s i < 237)∨bat s i = 237∨(238 ≤ bat s i∧bat s i < 240)∨bat s i = 240∨(241 ≤ bat s i∧bat s i < 244)∨bat s i = 244∨245 ≤ bat s i:=by omega
 have cl1:bat s (i + 1) < 144∨(144 ≤ bat s (i + 1)∧bat s (i + 1) < 160)∨160 ≤ bat s (i + 1):=by omega
 cases t1:a3H s (i + 1) with
 | false=>
  simp only [cond_false,Bool.cond_decide]
  have t1':¬ (i + 1 < s.size∧128 ≤ bat s (i + 1)∧bat s (i + 1) < 192):=by simpa [a3H] using t1
  clear t1 cl1
  rcases cls with c | c | c | c | c | c | c | c | c | c | c
  all_goals simp (disch:=omega) only [if_pos,if_neg]
  all_goals first
   | exact key 0 _ rfl (by simp (disch:=omega) only [len3,U7,if_pos,if_neg])
   | exact key 1 _ rfl (by simp (disch:=omega) only [len3,U7,if_pos,if_neg])
 | true=>
  have t1':(i + 1 < s.size∧128 ≤ bat s (i + 1)∧bat s (i + 1) < 192):=by simpa [a3H,and_assoc] using t1
  simp only [cond_true,cond_false,P9 t1'.1,Option.bind_some,Y0]
  clear t1
  cases t2:a3H s (i + 2) with
  | false=>
   simp only [cond_false,cond_true,Bool.cond_decide]
   have t2':¬ (i + 2 < s.size∧128 ≤ bat s (i + 2)∧bat s (i + 2) < 192):=by simpa [a3H] using t2
   clear t2 cl1
   rcases cls with c | c | c | c | c | c | c | c | c | c | c
   all_goals simp (disch:=omega) only [if_pos,if_neg]
   all_goals first
    | exact key 0 _ rfl (by simp (disch:=omega) only [len3,U7,if_pos,if_neg])
    | exact key 1 _ rfl (by simp (disch:=omega) only [len3,U7,if_pos,if_neg])
    | exact key 2 _ rfl (by simp (disch:=omega) only [len3,U7,if_pos,if_neg])
  | true=>
   have t2':(i + 2 < s.size∧128 ≤ bat s (i + 2)∧bat s (i + 2) < 192):=by simpa [a3H,and_assoc] using t2
   clear t2
   cases t3:a3H s (i + 3) with
   | false=>
    simp only [cond_false,cond_true,Bool.cond_decide]
    have t3':¬ (i + 3 < s.size∧128 ≤ bat s (i + 3)∧bat s (i + 3) < 192):=by simpa [a3H] using t3
    clear t3
    rcases cls with c | c | c | c | c | c | c | c | c | c | c <;> rcases cl1 with d | d | d
    all_goals simp (disch:=omega) only [if_pos,if_neg]
    all_goals first
     | exact key 0 _ rfl (by simp (disch:=omega) only [len3,U7,if_pos,if_neg])
     | exact key 1 _ rfl (by simp (disch:=omega) only [len3,U7,if_pos,if_neg])
     | exact key 2 _ rfl (by simp (disch:=omega) only [len3,U7,if_pos,if_neg])
     | exact key 3 _ rfl (by simp (disch:=omega) only [len3,U7,if_pos,if_neg])
   | true=>
    simp only [cond_false,cond_true,Bool.cond_decide]
    have t3':(i + 3 < s.size∧128 ≤ bat s (i + 3)∧bat s (i + 3) < 192):=by simpa [a3H,and_assoc] using t3
    clear t3
    rcases cls with c | c | c | c | c | c | c | c | c | c | c <;> rcases cl1 with d | d | d
    all_goals simp (disch:=omega) only [if_pos,if_neg]
    all_goals first
     | exact key 0 _ rfl (by simp (disch:=omega) only [len3,U7,if_pos,if_neg])
     | exact key 1 _ rfl (by simp (disch:=omega) only [len3,U7,if_pos,if_neg])
     | exact key 2 _ rfl (by simp (disch:=omega) only [len3,U7,if_pos,if_neg])
     | exact key 3 _ rfl (by simp (disch:=omega) only [len3,U7,if_pos,if_neg])
     | exact key 4 _ rfl (by simp (disch:=omega) only [len3,U7,if_pos,if_neg])
theorem ref_loop {s:ByteArray} (hs:s.size < 9223372036854775800) {i:Nat} {r:Option Nat} (h:Scan s i r) (st:Sto):y3.N8 s (i:Int) st = some ⟨.ret (V0 r),none,st⟩:=by
 induction h with
 | done i h=>
  rw [y3.N8_e]
  have:¬ ((i:Int) < (s.size:Int)):=by omega
  simp only [this,decide_false,cond_false]
  rfl
 | bad i h hb=>
  rw [y3.N8_e]
  have h':((i:Int) < (s.size:Int)):=by omega
  simp only [h',decide_true,cond_true,a3l s i h hs,len3_eq,hb,if_true,Option.bind_some,Out.on,asI,show decide (((0:Nat):Int) = 0) = true from rfl]
  rfl
 | step i r h hb k ih=>
  rw [y3.N8_e]
  have h':((i:Int) < (s.size:Int)):=by omega
  have hp:=dec_pos s i
  have hl:=dec_le h
  have hz:¬ (((dec s i).2:Nat):Int) = 0:=by omega
  simp only [h',decide_true,cond_true,a3l s i h hs,len3_eq,hb,if_false,Option.bind_some,Out.on,asI,if_true,hz,decide_false,cond_false]
  rw [w64 (i + (dec s i).2) (by omega) (by omega)]
  exact ih
theorem a1E {s:ByteArray} (hs:s.size < 9223372036854775800) {r:Option Nat} (h:Scan s 0 r) (st:Sto):O1 ap 65 [.str s] st = some (.ret (V0 r),st):=by
 rw [y3.call]
 refine O7 ?_ (a1d _ _) (a2q _ _) (O5.refl _ _)
 rw [y3.b_eq]
 exact ref_loop hs h st
set_option maxRecDepth 100000 in
theorem okAt_word (s:ByteArray) (q:Nat) (st:Sto) (i:Nat) (hi:i ≠ 0) :
  (bif decide ((bat s i:Int) < 97) then (bif decide ((bat s i:Int) < 48) then i5.F6 s (q:Int) (i:Int) (!decide ((bat s i:Int) = (q:Int))) st else (bif decide ((57:Int) < (bat s i:Int)) then i5.F6 s (q:Int) (i:Int) (!decide ((bat s i:Int) = (q:Int))) st else i5.F6 s (q:Int) (i:Int) false st))
   else (bif decide ((122:Int) < (bat s i:Int)) then (bif decide ((bat s i:Int) < 48) then i5.F6 s (q:Int) (i:Int) (!decide ((bat s i:Int) = (q:Int))) st else (bif decide ((57:Int) < (bat s i:Int)) then i5.F6 s (q:Int) (i:Int) (!decide ((bat s i:Int) = (q:Int))) st else i5.F6 s (q:Int) (i:Int) false st)) else i5.F6 s (q:Int) (i:Int) false st))
   = i5.F6 s (q:Int) (i:Int) (!okAt s q i) st:=by
 have e1:((bat s i:Int) < 97) = (bat s i < 97):=propext ⟨fun h=>by omega,fun h=>by omega⟩
 have e2:((122:Int) < (bat s i:Int)) = (122 < bat s i):=propext ⟨fun h=>by omega,fun h=>by omega⟩
 have e4:((bat s i:Int) = (q:Int)) = (bat s i = q):=propext ⟨fun h=>by omega,fun h=>by omega⟩
 have e5:((bat s i:Int) < 48) = (bat s i < 48):=propext ⟨fun h=>by omega,fun h=>by omega⟩
 have e6:((57:Int) < (bat s i:Int)) = (57 < bat s i):=propext ⟨fun h=>by omega,fun h=>by omega⟩
 have key:∀ x:Bool,x = (!okAt s q i)→i5.F6 s (q:Int) (i:Int) x st = i5.F6 s (q:Int) (i:Int) (!okAt s q i) st:=by rintro x rfl; rfl
 simp only [e1,e2,e4,e5,e6,Bool.cond_decide]
 repeat' split
 all_goals refine key _ ?_
 all_goals unfold okAt
 all_goals rw [Bool.eq_iff_iff]
 all_goals simp only [true_iff,false_iff,Bool.not_eq_true',Bool.not_eq_false',Bool.or_eq_false_iff,Bool.and_eq_false_iff,Bool.or_eq_true,Bool.and_eq_true,decide_eq_true_eq,decide_eq_false_iff_not,Bool.false_eq_true,ne_eq,Bool.not_true,Bool.not_false]
 all_goals omega
theorem word_loop (s:ByteArray) (hs:s.size < 9223372036854775800) (q:Nat) (st:Sto):∀ m i:Nat,i ≠ 0→i + m = s.size→i5.F0 s (q:Int) (i:Int) st = some ⟨.ret (.bool (a3j s q m i)),none,st⟩:=by
 intro m
 induction m with
 | zero=>
  intro i hi h
  obtain rfl:i = s.size:=by omega
  rw [i5.F0_e]
  simp only [Int.lt_irrefl,decide_false,cond_false,a3j]
 | succ m ih=>
  intro i hi0 h
  have hi:i < s.size:=by omega
  have hlt:(i:Int) < ((s.size:Nat):Int):=by omega
  have wi:IntKind.wrap .i64 ((i:Int) + 1) = ((i + 1:Nat):Int):=w64 _ (by omega) (by omega)
  rw [i5.F0_e]
  simp only [hlt,decide_true,cond_true,P9 hi,Option.bind_some,Y0]
  rw [okAt_word s q st i hi0,i5.F6_e,wi,a3j,ih (i + 1) (by omega) (by omega)]
  cases okAt s q i <;> simp
theorem word_spec (s:ByteArray) (hs:s.size < 9223372036854775800) (q:Nat) (st:Sto):O1 ap 108 [.str s, .int .u8 (q:Int)] st = some (.ret (.bool (a0q s q)),st):=by
 rw [i5.call]
 refine O7 ?_ rfl rfl (O5.refl _ _)
 rw [i5.b_eq]
 unfold a0q
 by_cases h1:s.size < 1
 ·have h1':((s.size:Nat):Int) < 1:=by omega
  have h2:¬ 1 ≤ s.size:=by omega
  simp only [h1',decide_true,cond_true,i5.I7_e,h2,decide_false,Bool.false_and]
 ·have h1':¬ ((s.size:Nat):Int) < 1:=by omega
  have h1'':1 ≤ s.size:=by omega
  by_cases h2:32 < s.size
  ·have h2':(32:Int) < ((s.size:Nat):Int):=by omega
   have h3:¬ s.size ≤ 32:=by omega
   simp only [h1',h2',decide_true,decide_false,cond_true,cond_false,i5.I7_e,h3,Bool.and_false,Bool.false_and]
  ·have h2':¬ (32:Int) < ((s.size:Nat):Int):=by omega
   have h3:s.size ≤ 32:=by omega
   obtain ⟨m,hm⟩:∃ m,s.size = m + 1:=⟨s.size - 1,by omega⟩
   have hl:=word_loop s hs q st m 1 (by omega) (by omega)
   have ha:a3j s q s.size 0 = ((decide (97 ≤ bat s 0) && decide (bat s 0 ≤ 122)) && a3j s q m 1):=by
    rw [hm]
    simp [a3j,okAt]
   rw [ha]
   simp only [h1',h2',decide_false,cond_false,idx0 (show 0 < s.size by omega),Option.bind_some,Y0,h1'',h3,decide_true,Bool.true_and]
   by_cases h4:bat s 0 < 97
   ·have h4':(bat s 0:Int) < 97:=by omega
    have h5:¬ 97 ≤ bat s 0:=by omega
    simp only [h4',decide_true,cond_true,i5.I7_e,h5,decide_false,Bool.false_and]
   ·have h4':¬ (bat s 0:Int) < 97:=by omega
    have h5:97 ≤ bat s 0:=by omega
    by_cases h6:122 < bat s 0
    ·have h6':(122:Int) < (bat s 0:Int):=by omega
     have h7:¬ bat s 0 ≤ 122:=by omega
     simp only [h4',h6',decide_true,decide_false,cond_true,cond_false,i5.I7_e,h7,Bool.and_false,Bool.false_and]
    ·have h6':¬ (122:Int) < (bat s 0:Int):=by omega
     have h7:bat s 0 ≤ 122:=by omega
     simp only [h4',h6',decide_false,cond_false,i5.I7_e,h5,h7,decide_true,Bool.true_and]
     exact hl
theorem a1g (s:ByteArray) (hs:s.size < 9223372036854775800) (st:Sto):O1 ap 99 [.str s] st = some (.ret (.bool (a0q s 45)),st):=by
 rw [E1.call]
 refine O7 ?_ rfl rfl (O5.refl _ _)
 rw [E1.b_eq,show ((45:Int)) = ((45:Nat):Int) from rfl,word_spec s hs 45 st]
 rfl
open Classical in
theorem a3A (s:ByteArray) (hs:s.size < 9223372036854775800) (st:Sto):O1 ap 37 [.str s] st = some (.ret (.bool (okT s)),st):=by
 obtain ⟨r,hr⟩:=scan_ex s s.size 0 (by omega) (by omega)
 rw [D6.call]
 refine O7 ?_ rfl rfl (O5.refl _ _)
 rw [D6.b_eq]
 unfold okT
 by_cases h4:s.size ≤ 4096
 ·have h4':¬ ((4096:Int) < ((s.size:Nat):Int)):=by omega
  cases r with
  | none=>simp only [h4',h4,a1E hs hr,V0,Option.bind_some,Out.on,ext,List.getElem?_cons_zero,List.getElem?_cons_succ,asI,if_true,decide_true,decide_false,cond_false,hr,Bool.true_and]
  | some a=>
   have e:¬ Scan s 0 none:=fun h=>by have:=scan_det h hr; cases this
   simp only [h4',h4,a1E hs hr,V0,Option.bind_some,Out.on,ext,List.getElem?_cons_zero,List.getElem?_cons_succ,asI,if_true,show decide ((300:Int) = 0) = false from rfl,decide_true,decide_false,cond_false,e,Bool.false_and]
 ·have h4':((4096:Int) < ((s.size:Nat):Int)):=by omega
  simp only [h4',h4,decide_true,decide_false,cond_true,Bool.and_false]
theorem alone_loop {tag text:ByteArray} {a k:AV} {ats:List (ByteArray × ByteArray)} (ha:a2l ats a) (hs:asz ats ≤ 1050000) (st:Sto) (id:Nat) (hst:st[id]? = some (.cells 0 [.str tag, .str text,a,k] 0)) :
  ∀ (suf pre:List (ByteArray × ByteArray)),ats = pre ++ suf →
   j8.F1 id ((pre.length:Nat):Int) st = some ⟨.ret (.bool (aOk (prev pre) suf)),none,st⟩:=by
 have h2:ld false 1 st (.mp id 0 2) = some a:=O8 hst rfl
 intro suf
 induction suf with
 | nil=>
  intro pre hp
  rw [List.append_nil] at hp
  subst hp
  rw [j8.F1_e]
  simp only [h2,Option.bind_some,ha.len,Int.lt_irrefl,decide_false,cond_false,aOk]
 | cons x r ih=>
  intro pre hp
  subst hp
  have hlen:(pre ++ x :: r).length ≤ 525000:=by have:=a23 (pre ++ x :: r); omega
  have hx:=asz_mem (ats:=pre ++ x :: r) (x:=x) (by simp)
  have hlt:(((pre.length:Nat):Int) < (((pre ++ x :: r).length:Nat):Int)):=by simp; omega
  have hw:IntKind.wrap .i64 (((pre.length:Nat):Int) + 1) = (((pre ++ [x]).length:Nat):Int):=by
   rw [w64 (pre.length + 1) (by omega) (by simp at hlen ⊢; omega)]
   simp
  have nxt:=ih (pre ++ [x]) (by simp)
  rw [a1T] at nxt
  have mid:∀ b:Bool,j8.K2 id ((pre.length:Nat):Int) b st = some ⟨.ret (.bool (!b && aOk (some x.1) r)),none,st⟩:=by
   intro b
   rw [j8.K2_e,hw]
   cases b with
   | true=>simp
   | false=>simpa using nxt
  rw [j8.F1_e]
  simp only [h2,Option.bind_some,ha.len,hlt,decide_true,cond_true,a26 ha rfl,g0,g1,l1,a1g x.1 (by omega),a3A x.2 (by omega),Out.on,if_true,asB]
  cases hwd:a0q x.1 45 with
  | false=>simp only [Bool.not_false,cond_true,mid,Bool.not_true,Bool.false_and,aOk,hwd,Bool.and_false]
  | true=>
   cases hok:okT x.2 with
   | false=>simp only [Bool.not_true,Bool.not_false,cond_false,cond_true,mid,Bool.false_and,aOk,hwd,hok,Bool.and_false]
   | true=>
    simp only [Bool.not_true,cond_false]
    rcases List.eq_nil_or_concat pre with rfl | ⟨pre',y,rfl⟩
    ·have hz:¬ ((0:Int) < (([]:List (ByteArray × ByteArray)).length:Nat)):=by simp
     simp only [hz,decide_false,cond_false,mid,aOk,prev,List.getLast?_nil,Option.map_none,hwd,hok,Bool.not_false,Bool.true_and]
    ·rw [List.concat_eq_append] at *
     have hz:((0:Int) < (((pre' ++ [y]).length:Nat):Int)):=by rw [List.length_append]; simp only [List.length_cons,List.length_nil]; omega
     have hw1:IntKind.wrap .i64 ((((pre' ++ [y]).length:Nat):Int) - 1) = ((pre'.length:Nat):Int):=by
      rw [w64 pre'.length (by simp) (by simp at hlen; omega)]
     have ha':a2l (pre' ++ y :: (x :: r)) a:=by simpa using ha
     simp only [hz,decide_true,cond_true,hw1,a26 ha' rfl,g0,l1,Option.bind_some,asS,mid,a1T,aOk,hwd,hok,Bool.not_not,Bool.and_true]
theorem alone_spec {tag text:ByteArray} {a k:AV} {ats:List (ByteArray × ByteArray)} {kids:Fo} (ha:a2l ats a) (hk:FoV kids k) (hs:asz ats ≤ 1050000) (ht:tag.size ≤ 1050000) (hx:text.size ≤ 1050000) (st:Sto) :
  O1 ap 98 [.agg [.str tag, .str text,a,k]] st = some (.ret (.bool (alone tag text ats kids)),st):=by
 have hg:(st ++ [Ob.cells 0 [.str tag, .str text,a,k] 0])[st.length]? = some (.cells 0 [.str tag, .str text,a,k] 0):=by simp
 have hl:=alone_loop ha hs _ st.length hg ats [] rfl
 have hcell:([AV.str tag, .str text,a,k]).all AV.isCell = true:=by
  rcases ha with ⟨_,rfl⟩ | ⟨_,_,rfl⟩ <;> rcases hk with ⟨_,rfl⟩ | ⟨_,_,rfl,_⟩ <;> rfl
 have hcs:AV.cells (.agg [.str tag, .str text,a,k]) = [.str tag, .str text,a,k]:=rfl
 rw [j8.call]
 refine O7 (st':=st ++ [Ob.cells 0 [.str tag, .str text,a,k] 0]) ?_ rfl rfl (O5.app (Nat.le_refl _))
 rw [j8.b_eq,hcs,if_pos hcell]
 have r0:=O8 (x := .str tag) (n:=0) hg rfl
 have r1:=O8 (x := .str text) (n:=1) hg rfl
 have r2:=O8 (x:=a) (n:=2) hg rfl
 have r3:=O8 (x:=k) (n:=3) hg rfl
 unfold alone
 by_cases h:tag = ⟨#[]⟩
 ·subst h
  have e1:(((ats.length:Nat):Int) = 0) = (ats.length = 0):=propext ⟨fun h=>by omega,fun h=>by omega⟩
  have e2:(((kids.len:Nat):Int) = 0) = (kids.len = 0):=propext ⟨fun h=>by omega,fun h=>by omega⟩
  simp only [r0,r1,r2,r3,Option.bind_some,asS,decide_true,cond_true,ha.len,hk.len,e1,e2,a3A text (by omega),Out.on,asB]
  cases decide (ats.length = 0) <;> cases decide (kids.len = 0) <;> simp
 ·simp only [r0,r1,Option.bind_some,asS,h,decide_false,cond_false,a1g tag (by omega),Out.on,asB]
  cases a0q tag 45 with
  | false=>simp [j8.F2_e]
  | true=>
   simp only [Bool.not_true,cond_false,j8.F2_e]
   by_cases h2:text = ⟨#[]⟩
   ·simp only [h2,decide_true,Bool.not_true,cond_false,Bool.and_true]
    simp only [List.length_nil,Int.natCast_zero] at hl
    simp only [h2] at hl
    exact hl
   ·simp [h2]
noncomputable def lk:Fo→Nat→Nat→Nat × Nat
 | .nil,m,_=>(m,0)
 | .cons tag text ats kids rest,m,d=>
  if 4096 ≤ m then (m,702) else if 64 < d then (m,701) else if alone tag text ats kids = true then
   (if (lk kids (m + 1) (d + 1)).2 = 0 then lk rest (lk kids (m + 1) (d + 1)).1 d else lk kids (m + 1) (d + 1))
  else (m,700)
theorem lk_wk (ts:Fo):∀ m d dm,(lk ts m d).2 = (wk ts m d dm).2.2∧((wk ts m d dm).2.2 = 0→(lk ts m d).1 = (wk ts m d dm).1):=by
 induction ts with
 | nil=>intro m d dm; simp [lk,wk]
 | cons tag text ats kids rest ihk ihr=>
  intro m d dm
  simp only [lk,wk,fault]
  by_cases h1:4096 ≤ m
  ·have h1':4096 < m + 1:=by omega
   simp [h1,h1']
  ·have h1':¬ 4096 < m + 1:=by omega
   by_cases h2:64 < d
   ·simp [h1,h1',h2]
   ·by_cases hal:alone tag text ats kids = true
    ·obtain ⟨k1,k2⟩:=ihk (m + 1) (d + 1) (max dm d)
     simp only [h1,h1',h2,hal,if_false,if_true,k1]
     by_cases hz:(wk kids (m + 1) (d + 1) (max dm d)).2.2 = 0
     ·simp only [hz,if_true,k2 hz]
      exact ihr _ _ _
     ·simp only [hz,if_false]
      exact ⟨k1,fun h=>h.elim⟩
    ·simp [h1,h1',h2,hal]
theorem lk_le (ts:Fo):∀ m d,m ≤ 4096→(lk ts m d).1 ≤ 4096:=by
 induction ts with
 | nil=>intro m d h; exact h
 | cons tag text ats kids rest ihk ihr=>
  intro m d h
  simp only [lk]
  split
  ·exact h
  ·split
   ·exact h
   ·split
    ·split
     ·exact ihr _ _ (ihk _ _ (by omega))
     ·exact ihk _ _ (by omega)
    ·exact h
def LookOk (ts:Fo):Prop:=∀ (row:List AV) (n i m d:Nat) (tok:Tok) (st:Sto),Row ts (row.drop (i * 4))→n = i + ts.len→ts.sz ≤ 1050000→n ≤ 1050000→m ≤ 4096→d ≤ 65 →
 y7.F4 (.is row n tok) (.int .i64 (m:Nat)) (d:Int) ((i:Nat):Int) st = some ⟨.ret (.tup [.int .i64 ((lk ts m d).1:Nat), .int .i64 ((lk ts m d).2:Nat)]),none,st⟩
theorem look_of {ts:Fo} (H:LookOk ts) {v:AV} (hv:FoV ts v) (hs:ts.sz ≤ 1050000) {m d:Nat} (hm:m ≤ 4096) (hd:d ≤ 65) (st:Sto) :
  O1 ap 70 [v, .int .i64 (m:Nat), .int .i64 (d:Int)] st = some (.ret (.tup [.int .i64 ((lk ts m d).1:Nat), .int .i64 ((lk ts m d).2:Nat)]),st):=by
 rw [y7.call]
 refine O7 ?_ rfl rfl (O5.refl _ _)
 rw [y7.b_eq]
 rcases hv with ⟨h0,rfl⟩ | ⟨row,tok,rfl,hr⟩
 ·obtain rfl:=len_nil h0
  rw [y7.F4_e]
  simp [P3,lk]
 ·have hl:=a1b ts
  have:=H row ts.len 0 m d tok st (by simpa using hr) (by omega) hs (by omega) hm hd
  simpa using this
theorem look_all (ts:Fo):LookOk ts:=by
 induction ts with
 | nil=>
  intro row n i m d tok st hr hn hs hb hm hd
  simp only [Fo.len] at hn
  rw [y7.F4_e]
  have hlt:¬ (((i:Nat):Int) < ((n:Nat):Int)):=by omega
  simp only [P3,Option.bind_some,hlt,decide_false,cond_false,lk]
  rfl
 | cons tag text ats kids rest ihk ihr=>
  intro row n i m d tok st hr hn hs hb hm hd
  simp only [Fo.len] at hn
  simp only [Fo.sz] at hs
  obtain ⟨a,k,ha,hk,hr',hlen,hia⟩:=a4J hr
  have hia:=hia n tok (by omega)
  have wi:IntKind.wrap .i64 ((i:Int) + 1) = ((i + 1:Nat):Int):=w64 _ (by omega) (by omega)
  have hlt:(((i:Nat):Int) < ((n:Nat):Int)):=by omega
  rw [y7.F4_e]
  simp only [P3,Option.bind_some,hlt,decide_true,cond_true,asI,if_true,lk]
  by_cases h1:4096 ≤ m
  ·have h1':((4096:Int) ≤ ((m:Nat):Int)):=by omega
   simp only [h1,h1',decide_true,cond_true,if_true]
   rfl
  ·have h1':¬ ((4096:Int) ≤ ((m:Nat):Int)):=by omega
   by_cases h2:64 < d
   ·have h2':((64:Int) < ((d:Nat):Int)):=by omega
    simp only [h1,h1',h2,h2',decide_true,decide_false,cond_true,cond_false,if_true,if_false]
    rfl
   ·have h2':¬ ((64:Int) < ((d:Nat):Int)):=by omega
    have wm:IntKind.wrap .i64 ((m:Int) + 1) = ((m + 1:Nat):Int):=w64 _ (by omega) (by omega)
    have wd:IntKind.wrap .i64 ((d:Int) + 1) = ((d + 1:Nat):Int):=w64 _ (by omega) (by omega)
    simp only [h1,h1',h2,h2',decide_false,cond_false,if_false,hia,l4,Option.bind_some,alone_spec (tag:=tag) (text:=text) ha hk (by omega) (by omega) (by omega),Out.on,asB]
    cases hal:alone tag text ats kids with
    | false=>
     simp only [Bool.not_false,cond_true,Bool.false_eq_true,if_false]
     rfl
    | true=>
     have hl:=look_of ihk hk (m:=m + 1) (d:=d + 1) (by omega) (by omega) (by omega) st
     simp only [Bool.not_true,cond_false,if_true,f3,l1,Option.bind_some,wm,wd,hl,ext,List.getElem?_cons_zero,List.getElem?_cons_succ]
     by_cases hz:(lk kids (m + 1) (d + 1)).2 = 0
     ·simp only [hz,Int.natCast_zero,decide_true,Bool.not_true,cond_false,if_true,wi]
      exact ihr row n (i + 1) _ d tok st hr' (by omega) (by omega) hb (lk_le kids _ _ (by omega)) hd
     ·have hz':¬ ((((lk kids (m + 1) (d + 1)).2:Nat):Int) = 0):=by omega
      simp only [hz,hz',decide_false,Bool.not_false,cond_true,if_false]
def dp:Fo→Nat→Nat
 | .nil,x=>x
 | .cons _ _ _ kids rest,x=>dp rest (max x (1 + dp kids 0))
theorem dp_max (ts:Fo):∀ x,dp ts x = max x (dp ts 0):=by
 induction ts with
 | nil=>intro x; simp [dp]
 | cons tag text ats kids rest ihk ihr=>
  intro x
  simp only [dp]
  rw [ihr,ihr (max 0 (1 + dp kids 0))]
  omega
theorem dp_le (ts:Fo):dp ts 0 ≤ ts.sz:=by
 induction ts with
 | nil=>simp [dp]
 | cons tag text ats kids rest ihk ihr=>
  simp only [dp,Fo.sz]
  rw [dp_max]
  omega
theorem wk_dp (ts:Fo):∀ m d dm,(wk ts m d dm).2.2 = 0→1 ≤ d→(wk ts m d dm).2.1 = max dm (if dp ts 0 = 0 then 0 else d - 1 + dp ts 0):=by
 induction ts with
 | nil=>intro m d dm _ _; simp [wk,dp]
 | cons tag text ats kids rest ihk ihr=>
  intro m d dm h hd
  simp only [wk] at h ⊢
  by_cases hf:fault m d tag text ats kids = 0
  ·simp only [hf,if_true] at h ⊢
   by_cases hz:(wk kids (m + 1) (d + 1) (max dm d)).2.2 = 0
   ·simp only [hz,if_true] at h ⊢
    rw [ihr _ _ _ h hd,ihk _ _ _ hz (by omega)]
    have hdp:dp (.cons tag text ats kids rest) 0 = max (max 0 (1 + dp kids 0)) (dp rest 0):=by
     simp only [dp]
     exact dp_max _ _
    simp only [hdp]
    split <;> split <;> split <;> omega
   ·simp only [hz,if_false] at h
  ·simp only [hf,if_false] at h
def DeepOk (ts:Fo):Prop:=∀ (row:List AV) (n i x:Nat) (tok:Tok) (st:Sto),Row ts (row.drop (i * 4))→n = i + ts.len→ts.sz ≤ 1050000→n ≤ 1050000 →
 y8.F0 (.is row n tok) (x:Int) ((i:Nat):Int) st = some ⟨.ret (.int .i64 (dp ts x:Nat)),none,st⟩
theorem deep_of {ts:Fo} (H:DeepOk ts) {v:AV} (hv:FoV ts v) (hs:ts.sz ≤ 1050000) (st:Sto) :
  O1 ap 100 [v] st = some (.ret (.int .i64 (dp ts 0:Nat)),st):=by
 rw [y8.call]
 refine O7 ?_ rfl rfl (O5.refl _ _)
 rw [y8.b_eq]
 rcases hv with ⟨h0,rfl⟩ | ⟨row,tok,rfl,hr⟩
 ·obtain rfl:=len_nil h0
  rw [y8.F0_e]
  simp [P3,dp]
 ·have hl:=a1b ts
  have:=H row ts.len 0 0 tok st (by simpa using hr) (by omega) hs (by omega)
  simpa using this
theorem deep_all (ts:Fo):DeepOk ts:=by
 induction ts with
 | nil=>
  intro row n i x tok st hr hn hs hb
  simp only [Fo.len] at hn
  rw [y8.F0_e]
  have hlt:¬ (((i:Nat):Int) < ((n:Nat):Int)):=by omega
  simp only [P3,Option.bind_some,hlt,decide_false,cond_false,dp]
 | cons tag text ats kids rest ihk ihr=>
  intro row n i x tok st hr hn hs hb
  simp only [Fo.len] at hn
  simp only [Fo.sz] at hs
  obtain ⟨a,k,ha,hk,hr',hlen,hia⟩:=a4J hr
  have hia:=hia n tok (by omega)
  have wi:IntKind.wrap .i64 ((i:Int) + 1) = ((i + 1:Nat):Int):=w64 _ (by omega) (by omega)
  have hlt:(((i:Nat):Int) < ((n:Nat):Int)):=by omega
  have hd:=dp_le kids
  have wd:IntKind.wrap .i64 (1 + ((dp kids 0:Nat):Int)) = ((1 + dp kids 0:Nat):Int):=w64 _ (by omega) (by omega)
  rw [y8.F0_e]
  simp only [P3,Option.bind_some,hlt,decide_true,cond_true,hia,f3,l1,deep_of ihk hk (by omega),Out.on,asI,if_true,wd,mxI_nat,wi,dp]
  exact ihr row n (i + 1) _ tok st hr' (by omega) (by omega) hb
section
variable {ts:Fo} {v:AV} (hv:FoV ts v) (hs:ts.sz ≤ 1050000) (st:Sto)
include hv hs
theorem a1H:O1 ap 39 [v] st = some (.ret (.int .i64 ((look ts).2.2:Nat)),st):=by
 have h:=look_of (look_all ts) hv hs (m:=0) (d:=1) (by omega) (by omega) st
 rw [D4.call]
 refine O7 ?_ rfl rfl (O5.refl _ _)
 rw [D4.b_eq]
 rw [show (((0:Nat):Int)) = 0 from rfl,show (((1:Nat):Int)) = 1 from rfl] at h
 obtain ⟨k1,k2⟩:=lk_wk ts 0 1 0
 have e:(look ts).2.2 = (lk ts 0 1).2:=by
  rw [k1]
  unfold look
  split <;> rfl
 rw [h,e]
 simp only [Option.bind_some,Out.on,ext,List.getElem?_cons_zero,List.getElem?_cons_succ]
theorem refDepth_spec:O1 ap 74 [v] st = some (.ret (.int .i64 ((look ts).2.1:Nat)),st):=by
 have h:=a1H hv hs st
 rw [D5.call]
 refine O7 ?_ rfl rfl (O5.refl _ _)
 rw [D5.b_eq,h]
 simp only [Option.bind_some,Out.on,asI,if_true]
 unfold look
 by_cases hz:(wk ts 0 1 0).2.2 = 0
 ·have hd:=wk_dp ts 0 1 0 hz (by omega)
  have:(wk ts 0 1 0).2.1 = dp ts 0:=by rw [hd]; split <;> omega
  simp only [hz,Int.natCast_zero,decide_true,Bool.not_true,cond_false,if_true,deep_of (deep_all ts) hv hs,Option.bind_some,Out.on,this]
 ·have hz':¬ ((((wk ts 0 1 0).2.2:Nat):Int) = 0):=by omega
  simp only [hz,hz',decide_false,Bool.not_false,cond_true,if_false]
  rfl
end
end Go.Proofs.YtcgepgahgihojaaGreatDoor
namespace Go.Proofs.YtcgepgahgihojaaGreatDoor
open Go.St Go.Lib
set_option linter.unusedVariables false
set_option linter.unusedSimpArgs false
theorem a0l (op:Int) (st:Sto):O1 ap 68 [.int .i64 op] st = some (.ret (.bool (R8 op)),st):=by
 have e:R8 op = (decide (op = 30) || (decide (op = 31) || (decide (op = 32) || decide (op = 33)))):=by
  unfold R8
  by_cases h:30 ≤ op
  ·by_cases k:op ≤ 33
   ·rw [O4 h,O4 k]
    by_cases a:op = 30
    ·simp [a]
    ·by_cases b:op = 31
     ·simp [b]
     ·by_cases c:op = 32
      ·simp [c]
      ·have:op = 33:=by omega
       simp [this]
   ·rw [O0 k,O0 (show ¬ op = 30 by omega),O0 (show ¬ op = 31 by omega),O0 (show ¬ op = 32 by omega),O0 (show ¬ op = 33 by omega)]
    simp
  ·rw [O0 h,O0 (show ¬ op = 30 by omega),O0 (show ¬ op = 31 by omega),O0 (show ¬ op = 32 by omega),O0 (show ¬ op = 33 by omega)]
   simp
 rw [D2.call]
 refine O7 ?_ rfl rfl (O5.refl _ _)
 rw [D2.b_eq,e]
 cases decide (op = 30) <;> cases decide (op = 31) <;> cases decide (op = 32) <;> rfl
def a0b (op:Int):Int × Int × Int:=
 if 1 ≤ op∧op ≤ 6 then (0,1,0) else if op = 7∨op = 9∨op = 10∨op = 11∨op = 29 then (1,0,0)
 else if op = 30∨op = 31 then (1,-1,0) else if op = 32 then (1,-1,-1) else if op = 33 then (0,0,0) else (2,-1,0)
theorem refNeeds_spec (op:Int) (st:Sto):O1 ap 67 [.int .i64 op] st = some (.ret (.tup [.int .i64 (a0b op).1, .int .i64 (a0b op).2.1, .int .i64 (a0b op).2.2]),st):=by
 rw [i8.call]
 refine O7 ?_ rfl rfl (O5.refl _ _)
 rw [i8.b_eq]
 unfold a0b
 have q:∀ b,b = decide (1 ≤ op∧op ≤ 6)→i8.I0 op b st = some ⟨.ret (.tup [.int .i64 (a0b op).1, .int .i64 (a0b op).2.1, .int .i64 (a0b op).2.2]),none,st⟩:=by
  intro b hb
  subst hb
  rw [i8.I0_e]
  unfold a0b
  by_cases h:1 ≤ op∧op ≤ 6
  ·rw [O4 h,if_pos h]; rfl
  ·rw [O0 h,if_neg h]
   by_cases a7:op = 7
   ·subst a7; exact i8.H8_e _ true st
   by_cases a9:op = 9
   ·subst a9; exact i8.H8_e _ true st
   by_cases a10:op = 10
   ·subst a10; exact i8.H8_e _ true st
   by_cases a11:op = 11
   ·subst a11; exact i8.H8_e _ true st
   by_cases a29:op = 29
   ·subst a29; exact i8.H8_e _ true st
   rw [if_neg (by omega),O0 a7,O0 a9,O0 a10,O0 a11,O0 a29]
   simp only [cond_false,i8.H8_e]
   by_cases a30:op = 30
   ·subst a30; exact i8.F7_e _ true st
   by_cases a31:op = 31
   ·subst a31; exact i8.F7_e _ true st
   rw [if_neg (by omega),O0 a30,O0 a31]
   simp only [cond_false,i8.F7_e]
   by_cases a32:op = 32
   ·subst a32; rfl
   by_cases a33:op = 33
   ·subst a33; rfl
   rw [if_neg a32,if_neg a33,O0 a32,O0 a33]
   rfl
 by_cases h1:1 ≤ op
 ·refine (bt (O4 h1)).trans ?_
  exact q _ (decide_eq_decide.2 ⟨fun h=>⟨h1,h⟩,fun h=>h.2⟩)
 ·refine (bf (O0 h1)).trans ?_
  exact q _ (O0 (fun h=>h1 h.1)).symm
def formR (op a i n texts depth:Int):Int:=
 if op < 1∨33 < op then 2000 else if op = 4 then 0
 else if op = 5∨op = 7 then (if a < 0∨texts ≤ a then 2003 else 0)
 else if op = 6 then (if a < 0∨depth ≤ a then 2003 else 0)
 else if op = 9 then (if a < 1∨8 < a then 2000 else 0)
 else if R8 op = true then (if a ≤ i∨n < a then 2002 else 0)
 else if a = 0 then 0 else 2000
theorem a2t (op a i n texts depth:Int) (st:Sto):O1 ap 66 [.agg [.int .i64 op, .int .i64 a], .int .i64 i, .int .i64 n, .int .i64 texts, .int .i64 depth] st = some (.ret (.int .i64 (formR op a i n texts depth)),st):=by
 have hc:AV.cells (.agg [.int .i64 op, .int .i64 a]) = [.int .i64 op, .int .i64 a]:=rfl
 obtain ⟨S,hS⟩:∃ S,S = st ++ [Ob.cells 0 [.int .i64 op, .int .i64 a] 0]:=⟨_,rfl⟩
 have hg:S[st.length]? = some (.cells 0 [.int .i64 op, .int .i64 a] 0):=by rw [hS]; simp
 have g0:ld false 1 S (.mp st.length 0 0) = some (.int .i64 op):=O8 hg rfl
 have g1:ld false 1 S (.mp st.length 0 1) = some (.int .i64 a):=O8 hg rfl
 rw [d9.call]
 refine O7 (st':=S) ?_ rfl rfl (by rw [hS]; exact O5.app (Nat.le_refl _))
 rw [d9.b_eq,hc,if_pos (show [AV.int .i64 op, .int .i64 a].all AV.isCell = true from rfl),←hS]
 have z:d9.I9 S = some ⟨.ret (.int .i64 0),none,S⟩:=d9.I9_e S
 have q:∀ b,b = decide (op < 1∨33 < op)→d9.I7 i n texts depth st.length b S = some ⟨.ret (.int .i64 (formR op a i n texts depth)),none,S⟩:=by
  intro b hb
  subst hb
  rw [d9.I7_e]
  unfold formR
  by_cases h:op < 1∨33 < op
  ·rw [O4 h,if_pos h]; rfl
  rw [O0 h,if_neg h]
  refine (bf rfl).trans ?_
  refine (br g0).trans ?_
  refine (br (aI _)).trans ?_
  by_cases h4:op = 4
  ·rw [O4 h4,if_pos h4]; rfl
  rw [O0 h4,if_neg h4]
  refine (bf rfl).trans ?_
  refine (br g0).trans ?_
  refine (br (aI _)).trans ?_
  have q2:∀ b,b = decide (op = 5∨op = 7)→d9.K0 i n texts depth st.length b S = some ⟨.ret (.int .i64 (if op = 5∨op = 7 then (if a < 0∨texts ≤ a then 2003 else 0)
    else if op = 6 then (if a < 0∨depth ≤ a then 2003 else 0)
    else if op = 9 then (if a < 1∨8 < a then 2000 else 0)
    else if R8 op = true then (if a ≤ i∨n < a then 2002 else 0)
    else if a = 0 then 0 else 2000)),none,S⟩:=by
   intro b hb
   subst hb
   rw [d9.K0_e]
   by_cases h5:op = 5∨op = 7
   ·rw [O4 h5,if_pos h5]
    refine (bt rfl).trans ?_
    refine (br g1).trans ?_
    refine (br (aI _)).trans ?_
    by_cases c1:a < 0
    ·rw [O4 c1,if_pos (.inl c1)]
     refine (bt rfl).trans ?_
     rw [d9.M9_e]; rfl
    rw [O0 c1]
    refine (bf rfl).trans ?_
    refine (br g1).trans ?_
    refine (br (aI _)).trans ?_
    rw [d9.M9_e]
    by_cases c2:texts ≤ a
    ·rw [O4 c2,if_pos (.inr c2)]; rfl
    ·rw [O0 c2,if_neg (fun h=>h.elim c1 c2)]; exact (bf rfl).trans z
   rw [O0 h5,if_neg h5]
   refine (bf rfl).trans ?_
   refine (br g0).trans ?_
   refine (br (aI _)).trans ?_
   by_cases h6:op = 6
   ·rw [O4 h6,if_pos h6]
    refine (bt rfl).trans ?_
    refine (br g1).trans ?_
    refine (br (aI _)).trans ?_
    by_cases c1:a < 0
    ·rw [O4 c1,if_pos (.inl c1)]
     refine (bt rfl).trans ?_
     rw [d9.L9_e]; rfl
    rw [O0 c1]
    refine (bf rfl).trans ?_
    refine (br g1).trans ?_
    refine (br (aI _)).trans ?_
    rw [d9.L9_e]
    by_cases c2:depth ≤ a
    ·rw [O4 c2,if_pos (.inr c2)]; rfl
    ·rw [O0 c2,if_neg (fun h=>h.elim c1 c2)]; exact (bf rfl).trans z
   rw [O0 h6,if_neg h6]
   refine (bf rfl).trans ?_
   refine (br g0).trans ?_
   refine (br (aI _)).trans ?_
   by_cases h9:op = 9
   ·rw [O4 h9,if_pos h9]
    refine (bt rfl).trans ?_
    refine (br g1).trans ?_
    refine (br (aI _)).trans ?_
    by_cases c1:a < 1
    ·rw [O4 c1,if_pos (.inl c1)]
     refine (bt rfl).trans ?_
     rw [d9.K8_e]; rfl
    rw [O0 c1]
    refine (bf rfl).trans ?_
    refine (br g1).trans ?_
    refine (br (aI _)).trans ?_
    rw [d9.K8_e]
    by_cases c2:8 < a
    ·rw [O4 c2,if_pos (.inr c2)]; rfl
    ·rw [O0 c2,if_neg (fun h=>h.elim c1 c2)]; exact (bf rfl).trans z
   rw [O0 h9,if_neg h9]
   refine (bf rfl).trans ?_
   refine (br g0).trans ?_
   refine (cr (a0l op S)).trans ?_
   refine (br (aB _)).trans ?_
   cases hj:R8 op with
   | true=>
    rw [if_pos rfl]
    refine (bt rfl).trans ?_
    refine (br g1).trans ?_
    refine (br (aI _)).trans ?_
    by_cases c1:a ≤ i
    ·rw [O4 c1,if_pos (.inl c1)]
     refine (bt rfl).trans ?_
     rw [d9.J5_e]; rfl
    rw [O0 c1]
    refine (bf rfl).trans ?_
    refine (br g1).trans ?_
    refine (br (aI _)).trans ?_
    rw [d9.J5_e]
    by_cases c2:n < a
    ·rw [O4 c2,if_pos (.inr c2)]; rfl
    ·rw [O0 c2,if_neg (fun h=>h.elim c1 c2)]; exact (bf rfl).trans z
   | false=>
    rw [if_neg (by decide)]
    refine (bf rfl).trans ?_
    refine (br g1).trans ?_
    refine (br (aI _)).trans ?_
    by_cases c1:a = 0
    ·rw [O4 c1,if_pos c1]; exact (bf rfl).trans z
    ·rw [O0 c1,if_neg c1]; exact bt rfl
  by_cases h5:op = 5
  ·refine (bt (O4 h5)).trans ?_
   exact q2 _ (O4 (.inl h5)).symm
  ·refine (bf (O0 h5)).trans ?_
   refine (br g0).trans ?_
   refine (br (aI _)).trans ?_
   exact q2 _ (decide_eq_decide.2 ⟨fun h => .inr h,fun h=>h.elim (fun h=>absurd h h5) id⟩)
 refine (br g0).trans ?_
 refine (br (aI _)).trans ?_
 by_cases h1:op < 1
 ·refine (bt (O4 h1)).trans ?_
  exact q _ (O4 (.inl h1)).symm
 ·refine (bf (O0 h1)).trans ?_
  refine (br g0).trans ?_
  refine (br (aI _)).trans ?_
  exact q _ (decide_eq_decide.2 ⟨fun h => .inr h,fun h=>h.elim (fun h=>absurd h h1) id⟩)
theorem formR_iff (op a:Int) (i n:Nat) (texts depth:Int):formR op a i n texts depth = 0 ↔ a2B op a = true∧a38 op a texts depth = false∧¬ (R8 op = true∧(a ≤ (i:Int)∨(n:Int) < a)):=by
 unfold formR a2B a38
 by_cases h:op < 1∨33 < op
 ·rw [if_pos h,if_pos h]; simp
 rw [if_neg h,if_neg h]
 by_cases h4:op = 4
 ·subst h4; simp [R8]
 rw [if_neg h4]
 by_cases h5:op = 5
 ·subst h5
  by_cases c1:a < 0 <;> by_cases c2:texts ≤ a <;> simp [R8,c1,c2]
 by_cases h7:op = 7
 ·subst h7
  by_cases c1:a < 0 <;> by_cases c2:texts ≤ a <;> simp [R8,c1,c2]
 rw [if_neg (by omega),if_neg h5,if_neg h7]
 by_cases h6:op = 6
 ·subst h6
  by_cases c1:a < 0 <;> by_cases c2:depth ≤ a <;> simp [R8,c1,c2]
 rw [if_neg h6,if_neg h6]
 by_cases h9:op = 9
 ·subst h9
  by_cases c1:a < 1
  ·rw [if_pos rfl,if_pos (.inl c1),if_pos rfl,O0 (show ¬ 1 ≤ a by omega)]; simp
  ·by_cases c2:8 < a
   ·rw [if_pos rfl,if_pos (.inr c2),if_pos rfl,O0 (show ¬ a ≤ 8 by omega)]; simp
   ·rw [if_pos rfl,if_neg (fun h=>h.elim c1 c2),if_pos rfl,O4 (show 1 ≤ a by omega),O4 (show a ≤ 8 by omega)]; simp [R8]
 rw [if_neg h9,if_neg h9]
 cases hj:R8 op with
 | true=>
  have e:(if (4 ≤ op∧op ≤ 7)∨(true = true) then true else decide (a = 0)) = true:=if_pos (.inr rfl)
  rw [e,if_pos rfl]
  by_cases c:a ≤ (i:Int)∨(n:Int) < a
  ·rw [if_pos c]; simp; omega
  ·rw [if_neg c]; simp; omega
 | false=>
  have e:(if (4 ≤ op∧op ≤ 7)∨(false = true) then true else decide (a = 0)) = decide (a = 0):=if_neg (by rintro (h | h); omega; cases h)
  rw [e,if_neg (by decide)]
  by_cases c:a = 0
  ·rw [if_pos c]; simp [c]
  ·rw [if_neg c]; simp [c]
theorem need_want {op a:Int} (h:a2B op a = true):(a0b op).1 = (W3 op).1∧(a0b op).2.1 = (W3 op).2∧(a0b op).2.2 = if op = 32 then -1 else 0:=by
 have h1:¬ (op < 1∨33 < op):=fun k=>by unfold a2B at h; rw [if_pos k] at h; cases h
 unfold a0b W3 opN
 by_cases a6:op ≤ 6
 ·rw [if_pos ⟨by omega,a6⟩,if_pos ⟨by omega,a6⟩,if_neg (by omega)]; exact ⟨rfl,rfl,rfl⟩
 rw [if_neg (by omega),if_neg (show ¬ (1 ≤ op∧op ≤ 6) by omega)]
 by_cases a8:op = 8
 ·subst a8; exact ⟨rfl,rfl,rfl⟩
 rw [if_neg a8]
 by_cases b:12 ≤ op∧op ≤ 28
 ·rw [if_neg (by omega),if_neg (by omega),if_neg (by omega),if_neg (by omega),if_pos b,if_pos (by omega),if_neg (by omega)]; exact ⟨rfl,rfl,rfl⟩
 rw [if_neg b,if_neg (show ¬ ((0:Int) ≠ 0) by decide)]
 by_cases c:op = 30
 ·subst c; exact ⟨rfl,rfl,rfl⟩
 by_cases c:op = 31
 ·subst c; exact ⟨rfl,rfl,rfl⟩
 by_cases c:op = 32
 ·subst c; exact ⟨rfl,rfl,rfl⟩
 by_cases c:op = 33
 ·subst c; exact ⟨rfl,rfl,rfl⟩
 have hz:op = 7∨op = 9∨op = 10∨op = 11∨op = 29:=by omega
 rcases hz with rfl | rfl | rfl | rfl | rfl <;> exact ⟨rfl,rfl,rfl⟩
def a0w (hs:List Int) (to:Nat) (x:Int):Bool:=!(decide (0 ≤ hs.getD to 0) && !decide (hs.getD to 0 = x))
def a1k (hs:List Int) (to:Nat) (x:Int):List Int:=if a0w hs to x = true then hs.set to x else hs
theorem a2r {st:Sto} {hid:Nat} {hs:List Int} {to:Nat} (x:Int) (hh:st[hid]? = some (.cells 0 (O6 hs) 0)) (hto:to < hs.length) :
  O1 ap 69 [.ms hid 0 0 hs.length 1, .int .i64 ((to:Nat):Int), .int .i64 x] st = some (.ret (.bool (a0w hs to x)),st.set hid (.cells 0 (O6 (a1k hs to x)) 0)):=by
 have hia:ia 1 (.ms hid 0 0 hs.length 1) (.int .i64 ((to:Nat):Int)) = some (.mp hid 0 to):=by
  simp only [ia,if_true,P9 hto,Option.bind_some,Nat.zero_add,Nat.mul_one]
 have gd:(O6 hs)[to]? = some (.int .i64 (hs.getD to 0)):=by
  simp [O6,List.getElem?_eq_getElem hto,List.getD_eq_getElem?_getD]
 have r0:ld false 1 st (.mp hid 0 to) = some (.int .i64 (hs.getD to 0)):=O8 hh gd
 have hst:sto 1 st (.mp hid 0 to) (.int .i64 x) = some (st.set hid (.cells 0 (O6 (hs.set to x)) 0)):=by
  rw [U8 hh (by simpa [O6] using hto) rfl rfl]
  simp [O6,List.map_set]
 have q:∀ b,b = (decide (0 ≤ hs.getD to 0) && !decide (hs.getD to 0 = x))→y9.I7 (.ms hid 0 0 hs.length 1) ((to:Nat):Int) x b st = some ⟨.ret (.bool (a0w hs to x)),none,st.set hid (.cells 0 (O6 (a1k hs to x)) 0)⟩:=by
  intro b hb
  have hl:a0w hs to x = !b:=by rw [hb]; rfl
  rw [y9.I7_e]
  unfold a1k
  rw [hl]
  cases b with
  | true=>rw [if_neg (by decide),R1 hh]; rfl
  | false=>
   rw [if_pos (show (!false) = true from rfl)]
   refine (bf rfl).trans ?_
   refine (br hia).trans ?_
   exact br hst
 have hb:y9.b (.ms hid 0 0 hs.length 1) ((to:Nat):Int) x st = some ⟨.ret (.bool (a0w hs to x)),none,st.set hid (.cells 0 (O6 (a1k hs to x)) 0)⟩:=by
  rw [y9.b_eq]
  refine (br hia).trans ?_
  refine (br r0).trans ?_
  refine (br (aI _)).trans ?_
  by_cases c:0 ≤ hs.getD to 0
  ·refine (bt (O4 c)).trans ?_
   refine (br hia).trans ?_
   refine (br r0).trans ?_
   refine (br (aI _)).trans ?_
   exact q _ (by rw [O4 c]; rfl)
  ·refine (bf (O0 c)).trans ?_
   exact q _ (by rw [O0 c]; rfl)
 rw [y9.call,hb]
 simp only [Option.bind_some]
 rw [gc_same (by simp) rfl]
theorem lead_same {hs:List Int} {to:Nat} {x:Int} (hto:to < hs.length):a2a hs to x = a0w hs to x∧(a0w hs to x = true→a1k hs to x = Y9 hs to x):=by
 unfold a1k a0w a2a Y9
 by_cases c:hs.getD to 0 < 0
 ·have c2:¬ 0 ≤ hs.getD to 0:=by omega
  rw [if_pos c,O0 c2]
  refine ⟨?_,fun _=>?_⟩
  ·rw [List.getD_eq_getElem?_getD,List.getElem?_set_self hto]; simp
  ·rfl
 ·have c2:0 ≤ hs.getD to 0:=by omega
  rw [if_neg c,O4 c2]
  refine ⟨by simp,fun h=>?_⟩
  rw [if_pos h]
  have h2:hs.getD to 0 = x:=by simpa using h
  rw [←h2,List.getD_eq_getElem?_getD,List.getElem?_eq_getElem hto]
  simp
def Fit (x:Int):Prop:=-9223372036854775808 ≤ x∧x ≤ 9223372036854775807
theorem wrapI (x:Int):IntKind.wrap .i64 x = if x % 18446744073709551616 ≥ 9223372036854775808 then x % 18446744073709551616 - 18446744073709551616 else x % 18446744073709551616:=by
 have e:(2:Int) ^ IntKind.bits .i64 = 18446744073709551616:=rfl
 have e2:(2:Int) ^ (IntKind.bits .i64 - 1) = 9223372036854775808:=rfl
 have s:IntKind.signed .i64 = true:=rfl
 unfold IntKind.wrap
 rw [e,e2,s]
 simp
theorem wrap_fit (x:Int):Fit (IntKind.wrap .i64 x):=by
 rw [wrapI]
 unfold Fit
 split <;> omega
theorem wrap_id {x:Int} (h:Fit x):IntKind.wrap .i64 x = x:=by
 rw [wrapI]
 obtain ⟨h1,h2⟩:=h
 split <;> omega
def Fits (hs:List Int):Prop:=∀ x ∈ hs,Fit x
theorem Fits.at_ {hs:List Int} (h:Fits hs) (i:Nat):Fit (hs.getD i 0):=by
 by_cases hi:i < hs.length
 ·rw [List.getD_eq_getElem?_getD,List.getElem?_eq_getElem hi]; exact h _ (List.getElem_mem hi)
 ·rw [List.getD_eq_getElem?_getD,List.getElem?_eq_none (by omega)]; unfold Fit; simp
theorem Fits.lead {hs:List Int} (h:Fits hs) {to:Nat} {x:Int} (hx:Fit x):Fits (Y9 hs to x):=by
 unfold Y9
 split
 ·intro y hy
  rcases List.mem_or_eq_of_mem_set hy with hy | rfl
  ·exact h _ hy
  ·exact hx
 ·exact h
theorem leadR_at {hs:List Int} {to j:Nat} {x:Int} (h:j ≠ to):(a1k hs to x).getD j 0 = hs.getD j 0:=by
 unfold a1k
 split
 ·rw [List.getD_eq_getElem?_getD,List.getElem?_set_ne (Ne.symm h),List.getD_eq_getElem?_getD]
 ·rfl
theorem nx_false (op:Int) (ks:List Int) (i:Nat) (y:Int):(a2C (a2I op (false,ks) i y)).1 = 2001:=by
 unfold a2I
 by_cases c:op = 33
 ·rw [if_pos c]; rfl
 ·rw [if_neg c,if_neg (show ¬ ((false,ks):Bool × List Int).1 = true from Bool.false_ne_true)]; rfl
section
variable {v:AV} {texts depth:Int} {hid:Nat}
open Classical in
theorem refCk_loop {code:List (Int × Int)} (hv:a19 code v) (hcl:code.length ≤ 8192) (n:Nat) (hhn:n ≤ hid):∀ (m i:Nat) (hs:List Int) (S:Sto),i + m = code.length→hs.length = code.length + 1→Fits hs→S[hid]? = some (.cells 0 (O6 hs) 0) →
  ∃ (e:Int) (S':Sto),g5.H0 v texts depth (.ms hid 0 0 hs.length 1) ((i:Nat):Int) S = some ⟨.ret (.int .i64 e),none,S'⟩∧(e = 0 ↔ ckGo code texts depth m i hs = 0)∧O5 n S S':=by
 intro m
 induction m with
 | zero=>
  intro i hs S him hl hf hh
  have hi:i = code.length:=by omega
  subst hi
  have hih:ia 1 (.ms hid 0 0 hs.length 1) (.int .i64 ((code.length:Nat):Int)) = some (.mp hid 0 code.length):=by
   simp only [ia,if_true,P9 (show code.length < hs.length by omega),Option.bind_some,Nat.zero_add,Nat.mul_one]
  have gd:(O6 hs)[code.length]? = some (.int .i64 (hs.getD code.length 0)):=by
   have:code.length < hs.length:=by omega
   simp [O6,List.getElem?_eq_getElem this,List.getD_eq_getElem?_getD]
  have r4:ld false 1 S (.mp hid 0 code.length) = some (.int .i64 (hs.getD code.length 0)):=O8 (n:=code.length) hh gd
  simp only [ckGo]
  by_cases h1:hs.getD code.length 0 = 1
  ·refine ⟨0,S,?_,by rw [if_pos h1]; simp,O5.refl _ _⟩
   rw [g5.H0_e]
   refine (br hv.len).trans ?_
   refine (bf (O0 (by omega))).trans ?_
   refine (br hv.len).trans ?_
   refine (br hih).trans ?_
   refine (br r4).trans ?_
   refine (br (aI _)).trans ?_
   exact bf (by simp only [h1,decide_true,Bool.not_true])
  ·refine ⟨2001,S,?_,by rw [if_neg h1]; simp,O5.refl _ _⟩
   rw [g5.H0_e]
   refine (br hv.len).trans ?_
   refine (bf (O0 (by omega))).trans ?_
   refine (br hv.len).trans ?_
   refine (br hih).trans ?_
   refine (br r4).trans ?_
   refine (br (aI _)).trans ?_
   exact bt (by simp only [h1,decide_false,Bool.not_false])
 | succ m ih=>
  intro i hs S him hl hf hh
  have hi:i < code.length:=by omega
  obtain ⟨x,hx⟩:∃ x,code[i]? = some x:=⟨_,List.getElem?_eq_getElem hi⟩
  obtain ⟨op,a⟩:=x
  have hgd:code.getD i (0,0) = (op,a):=by rw [List.getD_eq_getElem?_getD,hx]; rfl
  have hlt:=(List.getElem?_eq_some_iff.1 hh).1
  have w1:IntKind.wrap .i64 (((i:Nat):Int) + 1) = ((i + 1:Nat):Int):=w64 _ (by omega) (by omega)
  have hix:ia 2 v (.int .i64 ((i:Nat):Int)) = some (.ip [.int .i64 op, .int .i64 a]):=a1v hv hx
  have hih:∀ j:Nat,j < hs.length→ia 1 (.ms hid 0 0 hs.length 1) (.int .i64 ((j:Nat):Int)) = some (.mp hid 0 j):=fun j hj=>by
   simp only [ia,if_true,P9 hj,Option.bind_some,Nat.zero_add,Nat.mul_one]
  have gd:∀ (ks:List Int) (j:Nat),j < ks.length→(O6 ks)[j]? = some (.int .i64 (ks.getD j 0)):=fun ks j hj=>by
   simp [O6,List.getElem?_eq_getElem hj,List.getD_eq_getElem?_getD]
  have r1:ld false 1 S (.mp hid 0 i) = some (.int .i64 (hs.getD i 0)):=O8 (n:=i) hh (gd hs i (by omega))
  simp only [ckGo,hgd]
  obtain ⟨h,hhd⟩:∃ h,h = hs.getD i 0:=⟨_,rfl⟩
  have hfh:Fit h:=by rw [hhd]; exact hf.at_ i
  rw [←hhd] at r1
  have bad:∀ {e:Int} {q:Nat × List Int},e ≠ 0→q.1 ≠ 0→(e = 0 ↔ (if q.1 = 0 then ckGo code texts depth m (i + 1) q.2 else q.1) = 0):=fun he hk=>by
   rw [if_neg hk]; exact ⟨fun h=>absurd h he,fun h=>absurd h hk⟩
  have ne1:(2001:Int) ≠ 0:=by decide
  have ne2:(2001:Nat) ≠ 0:=by decide
  have start:∀ {X:Option Res},((asI .i64 (.int .i64 h)).bind fun n10=>bif (decide (n10 < 0)) then (some ⟨.ret (.int .i64 2001),none,S⟩) else ((ia 2 v (.int .i64 ((i:Nat):Int))).bind fun v11=>(ld true 2 S v11).bind fun v12=>(P3 v).bind fun m13=>(O1 ap 66 [v12,(.int .i64 ((i:Nat):Int)),(.int .i64 ((m13:Nat):Int)),(.int .i64 texts),(.int .i64 depth)] S).bind fun x14=>x14.1.on (fun v15=>(asI .i64 v15).bind fun n17=>bif (!decide (n17 = 0)) then (some ⟨.ret v15,none,x14.2⟩) else ((ia 2 v (.int .i64 ((i:Nat):Int))).bind fun v18=>(fa 0 1 v18).bind fun v19=>(ld false 1 x14.2 v19).bind fun v20=>(O1 ap 67 [v20] x14.2).bind fun x21=>x21.1.on (fun v22=>(ext v22 0).bind fun v24=>(ext v22 1).bind fun v25=>(ext v22 2).bind fun v26=>(ia 1 (.ms hid 0 0 hs.length 1) (.int .i64 ((i:Nat):Int))).bind fun v27=>(ld false 1 x21.2 v27).bind fun v28=>(asI .i64 v24).bind fun n29=>(asI .i64 v28).bind fun n30=>bif (decide (n30 < n29)) then (some ⟨.ret (.int .i64 2001),none,x21.2⟩) else ((ia 2 v (.int .i64 ((i:Nat):Int))).bind fun v31=>(fa 0 1 v31).bind fun v32=>(ld false 1 x21.2 v32).bind fun v33=>(O1 ap 68 [v33] x21.2).bind fun x34=>x34.1.on (fun v35=>if x34.2 = x21.2 then ((R3 v35).bind fun g37=>gOn g37 (none) fun b38=>bif b38 then ((ia 2 v (.int .i64 ((i:Nat):Int))).bind fun v39=>(fa 1 1 v39).bind fun v40=>(ld false 1 x21.2 v40).bind fun v41=>(ia 1 (.ms hid 0 0 hs.length 1) (.int .i64 ((i:Nat):Int))).bind fun v42=>(ld false 1 x21.2 v42).bind fun v43=>(asI .i64 v43).bind fun n44=>(asI .i64 v26).bind fun n45=>(O1 ap 69 [(.ms hid 0 0 hs.length 1),v41,(.int .i64 (IntKind.wrap .i64 (n44 + n45)))] x21.2).bind fun x46=>x46.1.on (fun v47=>(asB v47).bind fun q49=>g5.F5 v texts depth (.ms hid 0 0 hs.length 1) ((i:Nat):Int) v25 (!q49) x46.2) (fun e48=>none)) else (g5.F5 v texts depth (.ms hid 0 0 hs.length 1) ((i:Nat):Int) v25 false x21.2)) else none) (fun e36=>none))) (fun e23=>some ⟨.pan e23,none,x21.2⟩))) (fun e16=>some ⟨.pan e16,none,x14.2⟩))) = X→g5.H0 v texts depth (.ms hid 0 0 hs.length 1) ((i:Nat):Int) S = X:=by
   intro X hX
   rw [g5.H0_e]
   refine (br hv.len).trans ?_
   refine (bt (O4 (by omega))).trans ?_
   refine (br (hih i (by omega))).trans ?_
   refine (br r1).trans ?_
   exact hX
  by_cases c0:h < 0
  ·have ho:a0z op a code.length texts depth hs i = (2001,hs):=by unfold a0z; rw [if_pos (by rw [←hhd]; exact c0)]
   refine ⟨2001,S,start ?_,by rw [ho]; exact bad (q:=(2001,hs)) ne1 ne2,O5.refl _ _⟩
   refine (br (aI _)).trans ?_
   exact bt (O4 c0)
  have hfm:=formR_iff op a i code.length texts depth
  by_cases cf:¬ formR op a i code.length texts depth = 0
  ·have ho:(a0z op a code.length texts depth hs i).1 ≠ 0:=by
    unfold a0z
    rw [if_neg (by rw [←hhd]; exact c0)]
    by_cases k1:a2B op a = false
    ·rw [if_pos k1]; show (2000:Nat) ≠ 0; decide
    rw [if_neg k1]
    by_cases k2:a38 op a texts depth = true
    ·rw [if_pos k2]; show (2003:Nat) ≠ 0; decide
    rw [if_neg k2]
    by_cases k3:R8 op = true∧(a ≤ (i:Int)∨((code.length:Nat):Int) < a)
    ·rw [if_pos k3]; show (2002:Nat) ≠ 0; decide
    exact absurd (hfm.2 ⟨by simpa using k1,by simpa using k2,k3⟩) cf
   refine ⟨formR op a i code.length texts depth,S,start ?_,bad cf ho,O5.refl _ _⟩
   refine (br (aI _)).trans ?_
   refine (bf (O0 c0)).trans ?_
   refine (br hix).trans ?_
   refine (br (show ld true 2 S (.ip [.int .i64 op, .int .i64 a]) = some (.agg [.int .i64 op, .int .i64 a]) from rfl)).trans ?_
   refine (br hv.len).trans ?_
   refine (cr (a2t op a i code.length texts depth S)).trans ?_
   refine (br (aI _)).trans ?_
   exact bt (by rw [O0 cf]; rfl)
  have cf:=Decidable.not_not.1 cf
  obtain ⟨f1,f2,f3⟩:=hfm.1 cf
  obtain ⟨n1,n2,n3⟩:=need_want f1
  have hone:a0z op a code.length texts depth hs i = if h < (W3 op).1 then (2001,hs) else a2C (a2I op (a47 op a hs h) i (IntKind.wrap .i64 (h + (W3 op).2))):=by
   unfold a0z
   rw [←hhd,if_neg c0,if_neg (by rw [f1]; decide),if_neg (by rw [f2]; decide),if_neg f3]
  have upto:∀ {X:Option Res},(bif (decide (h < (a0b op).1)) then (some ⟨.ret (.int .i64 2001),none,S⟩) else ((ia 2 v (.int .i64 ((i:Nat):Int))).bind fun v31=>(fa 0 1 v31).bind fun v32=>(ld false 1 S v32).bind fun v33=>(O1 ap 68 [v33] S).bind fun x34=>x34.1.on (fun v35=>if x34.2 = S then ((R3 v35).bind fun g37=>gOn g37 (none) fun b38=>bif b38 then ((ia 2 v (.int .i64 ((i:Nat):Int))).bind fun v39=>(fa 1 1 v39).bind fun v40=>(ld false 1 S v40).bind fun v41=>(ia 1 (.ms hid 0 0 hs.length 1) (.int .i64 ((i:Nat):Int))).bind fun v42=>(ld false 1 S v42).bind fun v43=>(asI .i64 v43).bind fun n44=>(asI .i64 (.int .i64 (a0b op).2.2)).bind fun n45=>(O1 ap 69 [(.ms hid 0 0 hs.length 1),v41,(.int .i64 (IntKind.wrap .i64 (n44 + n45)))] S).bind fun x46=>x46.1.on (fun v47=>(asB v47).bind fun q49=>g5.F5 v texts depth (.ms hid 0 0 hs.length 1) ((i:Nat):Int) (.int .i64 (a0b op).2.1) (!q49) x46.2) (fun e48=>none)) else (g5.F5 v texts depth (.ms hid 0 0 hs.length 1) ((i:Nat):Int) (.int .i64 (a0b op).2.1) false S)) else none) (fun e36=>none))) = X→g5.H0 v texts depth (.ms hid 0 0 hs.length 1) ((i:Nat):Int) S = X:=by
   intro X hX
   refine start ?_
   refine (br (aI _)).trans ?_
   refine (bf (O0 c0)).trans ?_
   refine (br hix).trans ?_
   refine (br (show ld true 2 S (.ip [.int .i64 op, .int .i64 a]) = some (.agg [.int .i64 op, .int .i64 a]) from rfl)).trans ?_
   refine (br hv.len).trans ?_
   refine (cr (a2t op a i code.length texts depth S)).trans ?_
   refine (br (aI _)).trans ?_
   refine (bf (by rw [cf]; rfl)).trans ?_
   refine (br hix).trans ?_
   refine (br (show fa 0 1 (.ip [.int .i64 op, .int .i64 a]) = some (.ip [.int .i64 op]) from rfl)).trans ?_
   refine (br (show ld false 1 S (.ip [.int .i64 op]) = some (.int .i64 op) from rfl)).trans ?_
   refine (cr (refNeeds_spec op S)).trans ?_
   refine (br (x0 _ _)).trans ?_
   refine (br (x1 _ _ _)).trans ?_
   refine (br (x2 _ _ _ _)).trans ?_
   refine (br (hih i (by omega))).trans ?_
   refine (br r1).trans ?_
   refine (br (aI _)).trans ?_
   refine (br (aI _)).trans ?_
   exact hX
  by_cases cn:h < (a0b op).1
  ·refine ⟨2001,S,upto (bt (O4 cn)),?_,O5.refl _ _⟩
   have h1:a0z op a code.length texts depth hs i = (2001,hs):=by rw [hone,if_pos (by rw [←n1]; exact cn)]
   rw [h1]
   exact bad (q:=(2001,hs)) ne1 ne2
  have h2:a0z op a code.length texts depth hs i = a2C (a2I op (a47 op a hs h) i (IntKind.wrap .i64 (h + (W3 op).2))):=by rw [hone,if_neg (by rw [←n1]; exact cn)]
  rw [h2]
  have next:∀ (b:Bool) (ks:List Int) (S1:Sto),ks.length = hs.length→Fits ks→ks.getD i 0 = h→S1[hid]? = some (.cells 0 (O6 ks) 0)→O5 n S S1 →
    ∃ (e:Int) (S':Sto),g5.F5 v texts depth (.ms hid 0 0 hs.length 1) ((i:Nat):Int) (.int .i64 (a0b op).2.1) (!b) S1 = some ⟨.ret (.int .i64 e),none,S'⟩∧(e = 0 ↔ (if (a2C (a2I op (b,ks) i (IntKind.wrap .i64 (h + (W3 op).2)))).1 = 0 then ckGo code texts depth m (i + 1) (a2C (a2I op (b,ks) i (IntKind.wrap .i64 (h + (W3 op).2)))).2 else (a2C (a2I op (b,ks) i (IntKind.wrap .i64 (h + (W3 op).2)))).1) = 0)∧O5 n S S':=by
   intro b ks S1 kl kf ka kh kk
   cases b with
   | false=>
    refine ⟨2001,S1,?_,?_,kk⟩
    ·rw [g5.F5_e]; exact bt rfl
    ·rw [nx_false]; simp
   | true=>
    rw [g5.F5_e]
    have r5:ld false 1 S1 (.mp hid 0 i) = some (.int .i64 h):=by rw [←ka]; exact O8 (n:=i) kh (gd ks i (by omega))
    have hkt:=(List.getElem?_eq_some_iff.1 kh).1
    have tail:∀ (b2:Bool) (ls:List Int) (S2:Sto),ls.length = hs.length→Fits ls→S2[hid]? = some (.cells 0 (O6 ls) 0)→O5 n S S2 →
      ∃ (e:Int) (S':Sto),g5.G5 v texts depth (.ms hid 0 0 hs.length 1) ((i:Nat):Int) (!b2) S2 = some ⟨.ret (.int .i64 e),none,S'⟩∧(e = 0 ↔ (if (a2C (b2,ls)).1 = 0 then ckGo code texts depth m (i + 1) (a2C (b2,ls)).2 else (a2C (b2,ls)).1) = 0)∧O5 n S S':=by
     intro b2 ls S2 ll lf lh lk
     cases b2 with
     | false=>exact ⟨2001,S2,by rw [g5.G5_e]; exact bt rfl,by simp [a2C],lk⟩
     | true=>
      obtain ⟨e,S',e1,e2,e3⟩:=ih (i + 1) ls S2 (by omega) (by omega) lf lh
      refine ⟨e,S',?_,by simpa [a2C] using e2,lk.trans e3⟩
      rw [g5.G5_e,w1,←ll]
      exact (bf rfl).trans e1
    by_cases c33:op = 33
    ·obtain ⟨e,S',e1,e2,e3⟩:=tail true ks S1 kl kf kh kk
     refine ⟨e,S',?_,?_,e3⟩
     ·refine (bf rfl).trans ?_
      refine (br hix).trans ?_
      refine (br (show fa 0 1 (.ip [.int .i64 op, .int .i64 a]) = some (.ip [.int .i64 op]) from rfl)).trans ?_
      refine (br (show ld false 1 S1 (.ip [.int .i64 op]) = some (.int .i64 op) from rfl)).trans ?_
      refine (br (aI _)).trans ?_
      refine (bf (by rw [O4 c33]; rfl)).trans ?_
      exact e1
     ·unfold a2I
      rw [if_pos c33]
      exact e2
    ·have hls:=lead_same (hs:=ks) (to:=i + 1) (x:=IntKind.wrap .i64 (h + (W3 op).2)) (by omega)
     have hsp:=a2r (IntKind.wrap .i64 (h + (W3 op).2)) kh (to:=i + 1) (by omega)
     rw [kl] at hsp
     have pre:∀ {X:Option Res},g5.G5 v texts depth (.ms hid 0 0 hs.length 1) ((i:Nat):Int) (!(a0w ks (i + 1) (IntKind.wrap .i64 (h + (W3 op).2)))) (S1.set hid (.cells 0 (O6 (a1k ks (i + 1) (IntKind.wrap .i64 (h + (W3 op).2)))) 0)) = X →
       (bif !true then (some ⟨.ret (.int .i64 2001),none,S1⟩) else ((ia 2 v (.int .i64 ((i:Nat):Int))).bind fun v54=>(fa 0 1 v54).bind fun v55=>(ld false 1 S1 v55).bind fun v56=>(asI .i64 v56).bind fun n57=>bif (!decide (n57 = 33)) then ((ia 1 (.ms hid 0 0 hs.length 1) (.int .i64 ((i:Nat):Int))).bind fun v58=>(ld false 1 S1 v58).bind fun v59=>(asI .i64 v59).bind fun n60=>(asI .i64 (.int .i64 (a0b op).2.1)).bind fun n61=>(O1 ap 69 [(.ms hid 0 0 hs.length 1),(.int .i64 (IntKind.wrap .i64 (((i:Nat):Int) + 1))),(.int .i64 (IntKind.wrap .i64 (n60 + n61)))] S1).bind fun x62=>x62.1.on (fun v63=>(asB v63).bind fun q65=>g5.G5 v texts depth (.ms hid 0 0 hs.length 1) ((i:Nat):Int) (!q65) x62.2) (fun e64=>some ⟨.pan e64,none,x62.2⟩)) else (g5.G5 v texts depth (.ms hid 0 0 hs.length 1) ((i:Nat):Int) false S1))) = X:=by
      intro X hX
      refine (bf rfl).trans ?_
      refine (br hix).trans ?_
      refine (br (show fa 0 1 (.ip [.int .i64 op, .int .i64 a]) = some (.ip [.int .i64 op]) from rfl)).trans ?_
      refine (br (show ld false 1 S1 (.ip [.int .i64 op]) = some (.int .i64 op) from rfl)).trans ?_
      refine (br (aI _)).trans ?_
      refine (bt (by rw [O0 c33]; rfl)).trans ?_
      refine (br (hih i (by omega))).trans ?_
      refine (br r5).trans ?_
      refine (br (aI _)).trans ?_
      refine (br (aI _)).trans ?_
      rw [n2,w1]
      refine (cr hsp).trans ?_
      refine (br (aB _)).trans ?_
      exact hX
     have hnx:a2I op (true,ks) i (IntKind.wrap .i64 (h + (W3 op).2)) = (a2a ks (i + 1) (IntKind.wrap .i64 (h + (W3 op).2)),Y9 ks (i + 1) (IntKind.wrap .i64 (h + (W3 op).2))):=by
      unfold a2I
      rw [if_neg c33,if_pos rfl]
     rw [hnx]
     cases hb:a0w ks (i + 1) (IntKind.wrap .i64 (h + (W3 op).2)) with
     | false=>
      rw [hls.1,hb]
      refine ⟨2001,S1.set hid (.cells 0 (O6 (a1k ks (i + 1) (IntKind.wrap .i64 (h + (W3 op).2)))) 0),pre ?_,by simp [a2C],kk.trans (O5.set hhn)⟩
      rw [hb,g5.G5_e]
      exact bt rfl
     | true=>
      rw [hls.1,hb]
      obtain ⟨e,S',e1,e2,e3⟩:=tail true (Y9 ks (i + 1) (IntKind.wrap .i64 (h + (W3 op).2))) (S1.set hid (.cells 0 (O6 (a1k ks (i + 1) (IntKind.wrap .i64 (h + (W3 op).2)))) 0)) (by rw [a0e]; exact kl) (kf.lead (wrap_fit _)) (by rw [hls.2 hb]; exact List.getElem?_set_self hkt) (kk.trans (O5.set hhn))
      refine ⟨e,S',pre ?_,e2,e3⟩
      rw [hb]
      exact e1
  cases hj:R8 op with
  | false=>
   have hjx:a47 op a hs h = (true,hs):=by
    unfold R8 at hj
    have:¬ (30 ≤ op∧op ≤ 33):=fun k=>by rw [O4 k.1,O4 k.2] at hj; cases hj
    unfold a47
    rw [if_neg (by omega),if_neg (by omega),if_neg (by omega),if_neg (by omega)]
   rw [hjx]
   obtain ⟨e,S',e1,e2,e3⟩:=next true hs S rfl hf hhd.symm hh (O5.refl _ _)
   refine ⟨e,S',upto ?_,e2,e3⟩
   refine (bf (O0 cn)).trans ?_
   refine (br hix).trans ?_
   refine (br (show fa 0 1 (.ip [.int .i64 op, .int .i64 a]) = some (.ip [.int .i64 op]) from rfl)).trans ?_
   refine (br (show ld false 1 S (.ip [.int .i64 op]) = some (.int .i64 op) from rfl)).trans ?_
   refine (cr (a0l op S)).trans ?_
   refine (it rfl).trans ?_
   refine (br (gB _)).trans ?_
   rw [hj]
   refine gs.trans ?_
   refine (bf rfl).trans ?_
   exact e1
  | true=>
   have hrange:(i:Int) < a∧a ≤ ((code.length:Nat):Int):=by
    have:=f3
    rw [hj] at this
    constructor
    ·by_cases k:a ≤ (i:Int)
     ·exact absurd ⟨rfl, .inl k⟩ this
     ·omega
    ·by_cases k:((code.length:Nat):Int) < a
     ·exact absurd ⟨rfl, .inr k⟩ this
     ·omega
   obtain ⟨to,hto⟩:∃ to:Nat,a = ((to:Nat):Int):=⟨a.toNat,by omega⟩
   have hrange2:i < to∧to < hs.length:=by omega
   have hj2:op = 30∨op = 31∨op = 32∨op = 33:=by
    unfold R8 at hj
    simp only [Bool.and_eq_true,decide_eq_true_eq] at hj
    omega
   obtain ⟨x,hxd⟩:∃ x,x = IntKind.wrap .i64 (h + (a0b op).2.2):=⟨_,rfl⟩
   have hfx:Fit x:=by rw [hxd]; exact wrap_fit _
   have hjx:a47 op a hs h = (a2a hs to x,Y9 hs to x):=by
    have e0:op ≠ 32→x = h:=fun k=>by rw [hxd,n3,if_neg k,Int.add_zero,wrap_id hfh]
    have e1:op = 32→x = IntKind.wrap .i64 (h - 1):=fun k=>by rw [hxd,n3,if_pos k]; rfl
    have et:a.toNat = to:=by rw [hto]; rfl
    unfold a47
    rw [et]
    rcases hj2 with k | k | k | k
    ·rw [if_pos k,e0 (by omega)]
    ·rw [if_neg (by omega),if_pos k,e0 (by omega)]
    ·rw [if_neg (by omega),if_neg (by omega),if_pos k,←e1 k]
    ·rw [if_neg (by omega),if_neg (by omega),if_neg (by omega),if_pos k,e0 (by omega)]
   rw [hjx]
   have hls:=lead_same (hs:=hs) (to:=to) (x:=x) hrange2.2
   have hsp:=a2r x hh (to:=to) hrange2.2
   have pre:∀ {X:Option Res},g5.F5 v texts depth (.ms hid 0 0 hs.length 1) ((i:Nat):Int) (.int .i64 (a0b op).2.1) (!(a0w hs to x)) (S.set hid (.cells 0 (O6 (a1k hs to x)) 0)) = X→g5.H0 v texts depth (.ms hid 0 0 hs.length 1) ((i:Nat):Int) S = X:=by
    intro X hX
    refine upto ?_
    refine (bf (O0 cn)).trans ?_
    refine (br hix).trans ?_
    refine (br (show fa 0 1 (.ip [.int .i64 op, .int .i64 a]) = some (.ip [.int .i64 op]) from rfl)).trans ?_
    refine (br (show ld false 1 S (.ip [.int .i64 op]) = some (.int .i64 op) from rfl)).trans ?_
    refine (cr (a0l op S)).trans ?_
    refine (it rfl).trans ?_
    refine (br (gB _)).trans ?_
    rw [hj]
    refine gs.trans ?_
    refine (bt rfl).trans ?_
    refine (br hix).trans ?_
    refine (br (show fa 1 1 (.ip [.int .i64 op, .int .i64 a]) = some (.ip [.int .i64 a]) from rfl)).trans ?_
    refine (br (show ld false 1 S (.ip [.int .i64 a]) = some (.int .i64 a) from rfl)).trans ?_
    refine (br (hih i (by omega))).trans ?_
    refine (br r1).trans ?_
    refine (br (aI _)).trans ?_
    refine (br (aI _)).trans ?_
    rw [←hxd,hto]
    refine (cr hsp).trans ?_
    refine (br (aB _)).trans ?_
    exact hX
   cases hb:a0w hs to x with
   | false=>
    rw [hls.1,hb]
    refine ⟨2001,S.set hid (.cells 0 (O6 (a1k hs to x)) 0),pre ?_,by rw [nx_false]; simp,O5.set hhn⟩
    rw [hb,g5.F5_e]
    exact bt rfl
   | true=>
    have hlt2:(S.set hid (.cells 0 (O6 (a1k hs to x)) 0))[hid]? = some (.cells 0 (O6 (Y9 hs to x)) 0):=by rw [hls.2 hb]; exact List.getElem?_set_self hlt
    obtain ⟨e,S',e1,e2,e3⟩:=next true (Y9 hs to x) (S.set hid (.cells 0 (O6 (a1k hs to x)) 0)) (a0e _ _ _) (hf.lead hfx) (by
     rw [←hls.2 hb,leadR_at (by omega)]; exact hhd.symm) hlt2 (O5.set hhn)
    rw [hls.1,hb]
    refine ⟨e,S',pre ?_,e2,e3⟩
    rw [hb]
    exact e1
theorem refCk_fill {code:List (Int × Int)} (hcl:code.length ≤ 8192) (n:Nat) (hhn:n ≤ hid):∀ (m i:Nat) (S:Sto),i + m = code.length→S[hid]? = some (.cells 0 (O6 (0 :: (List.replicate i (-1) ++ List.replicate m 0))) 0) →
  ∃ S',g5.F1 v texts depth (.ms hid 0 0 (code.length + 1) 1) ((i + 1:Nat):Int) S = g5.H0 v texts depth (.ms hid 0 0 (code.length + 1) 1) 0 S'∧O5 n S S'∧S'[hid]? = some (.cells 0 (O6 (hs0 code.length)) 0):=by
 intro m
 induction m with
 | zero=>
  intro i S him hh
  have hi:i = code.length:=by omega
  subst hi
  refine ⟨S,?_,O5.refl _ _,by rw [hh]; simp [hs0]⟩
  rw [g5.F1_e]
  refine (br (show P3 (.ms hid 0 0 (code.length + 1) 1) = some (code.length + 1) from rfl)).trans ?_
  exact bf (O0 (by omega))
 | succ m ih=>
  intro i S him hh
  have hih:ia 1 (.ms hid 0 0 (code.length + 1) 1) (.int .i64 ((i + 1:Nat):Int)) = some (.mp hid 0 (i + 1)):=by
   simp only [ia,if_true,P9 (show i + 1 < code.length + 1 by omega),Option.bind_some,Nat.zero_add,Nat.mul_one]
  have hlt:=(List.getElem?_eq_some_iff.1 hh).1
  have w1:IntKind.wrap .i64 (((i + 1:Nat):Int) + 1) = ((i + 1 + 1:Nat):Int):=w64 _ (by omega) (by omega)
  have hset:(O6 (0 :: (List.replicate i (-1) ++ List.replicate (m + 1) 0))).set (i + 1) (AV.int .i64 (-1)) = O6 (0 :: (List.replicate (i + 1) (-1) ++ List.replicate m 0)):=by
   simp only [O6,List.map_cons,List.map_append,List.map_replicate,List.set_cons_succ]
   rw [List.set_append_right _ _ (by simp),List.length_replicate,Nat.sub_self,List.replicate_succ,List.set_cons_zero,List.replicate_succ',List.append_assoc]
   rfl
  have hst:sto 1 S (.mp hid 0 (i + 1)) (.int .i64 (-1)) = some (S.set hid (.cells 0 (O6 (0 :: (List.replicate (i + 1) (-1) ++ List.replicate m 0))) 0)):=by
   rw [U8 hh (by simp [O6]) rfl rfl,hset]
  obtain ⟨S',k1,k2,k4⟩:=ih (i + 1) (S.set hid (.cells 0 (O6 (0 :: (List.replicate (i + 1) (-1) ++ List.replicate m 0))) 0)) (by omega) (List.getElem?_set_self hlt)
  refine ⟨S',?_,(O5.set hhn).trans k2,k4⟩
  rw [←k1,g5.F1_e]
  refine (br (show P3 (.ms hid 0 0 (code.length + 1) 1) = some (code.length + 1) from rfl)).trans ?_
  refine (bt (O4 (by omega))).trans ?_
  refine (br hih).trans ?_
  refine (br hst).trans ?_
  rw [w1]
end
theorem a2p {code:List (Int × Int)} {v:AV} (hv:a19 code v) (texts depth:Int) (st:Sto) :
  ∃ e:Int,O1 ap 38 [v, .int .i64 texts, .int .i64 depth] st = some (.ret (.int .i64 e),st)∧(e = 0 ↔ ckC code texts depth = 0):=by
 rw [g5.call]
 suffices hb:∃ (e:Int) (S':Sto),g5.b v texts depth st = some ⟨.ret (.int .i64 e),none,S'⟩∧(e = 0 ↔ ckC code texts depth = 0)∧O5 st.length st S' by
  obtain ⟨e,S',k1,k2,k3⟩:=hb
  exact ⟨e,O7 k1 rfl rfl k3,k2⟩
 rw [g5.b_eq]
 unfold ckC
 by_cases hbig:8192 < code.length
 ·rw [if_pos hbig]
  refine ⟨2004,st,?_,by simp,O5.refl _ _⟩
  refine (br hv.len).trans ?_
  exact bt (O4 (by omega))
 ·rw [if_neg hbig]
  have w1:IntKind.wrap .i64 (((code.length:Nat):Int) + 1) = ((code.length + 1:Nat):Int):=w64 _ (by omega) (by omega)
  have hmk:mkS 1 8 [AV.int .i64 0] (.int .i64 ((code.length + 1:Nat):Int)) (.int .i64 ((code.length + 1:Nat):Int)) st = some (.ms st.length 0 0 (code.length + 1) 1,st ++ [.cells 0 (O6 (List.replicate (code.length + 1) 0)) 0]):=by
   simp only [mkS]
   rw [if_pos (by omega),reps_int]
   simp
  obtain ⟨S,hS⟩:∃ S,S = st ++ [Ob.cells 0 (O6 (List.replicate (code.length + 1) 0)) 0]:=⟨_,rfl⟩
  have hh:S[st.length]? = some (.cells 0 (O6 (0 :: (List.replicate 0 (-1) ++ List.replicate code.length 0))) 0):=by rw [hS]; simp [List.replicate_succ]
  have hk:O5 st.length st S:=by rw [hS]; exact O5.app (Nat.le_refl _)
  obtain ⟨S1,k1,k2,k4⟩:=refCk_fill (v:=v) (texts:=texts) (depth:=depth) (code:=code) (by omega) st.length (hid:=st.length) (Nat.le_refl _) code.length 0 S (by omega) hh
  have hl0:(hs0 code.length).length = code.length + 1:=by simp [hs0]
  have hf0:Fits (hs0 code.length):=fun x hx=>by
   unfold hs0 at hx
   rcases List.mem_cons.1 hx with rfl | hx
   ·unfold Fit; omega
   ·rw [(List.mem_replicate.1 hx).2]; unfold Fit; omega
  obtain ⟨e,S2,m1,m2,m3⟩:=refCk_loop (texts:=texts) (depth:=depth) (hid:=st.length) hv (by omega) st.length (Nat.le_refl _) code.length 0 (hs0 code.length) S1 (by omega) hl0 hf0 k4
  rw [hl0] at m1
  refine ⟨e,S2,?_,m2,(hk.trans k2).trans m3⟩
  refine (br hv.len).trans ?_
  refine (bf (O0 (by omega))).trans ?_
  refine (br hv.len).trans ?_
  rw [w1]
  refine (br hmk).trans ?_
  rw [←hS]
  exact k1.trans m1
end Go.Proofs.YtcgepgahgihojaaGreatDoor
namespace Go.Proofs.YtcgepgahgihojaaGreatDoor
open Go.St Go.Lib
set_option linter.unusedVariables false
set_option linter.unusedSimpArgs false
theorem Z5 (x n:Int) (st:Sto):O1 ap 45 [.int .i64 x, .int .i64 n] st = some (.ret (.bool (a0h x n)),st):=by
 rw [E0.call]
 refine O7 ?_ rfl rfl (O5.refl _ _)
 rw [E0.b_eq]
 unfold a0h
 by_cases h:0 ≤ x <;> simp [h]
structure Us where
 a:Bool
 b:Bool
 c:Bool
 l:Bool
 ok:Bool
def X2 (k:Int):Us:=
 if k = 1∨k = 2∨k = 3∨k = 7∨k = 11∨k = 12 then ⟨true,false,false,false,true⟩
 else if k = 4∨k = 5 then ⟨true,true,false,false,true⟩
 else if k = 6 then ⟨false,false,false,false,true⟩
 else if k = 8∨k = 9 then ⟨true,true,true,false,true⟩
 else if k = 10 then ⟨false,false,true,true,true⟩
 else ⟨false,false,false,false,false⟩
def ustup (u:Us):AV := .tup [.bool u.a, .bool u.b, .bool u.c, .bool u.l, .bool u.ok]
theorem used_spec (k:Int) (st:Sto):O1 ap 71 [.int .i64 k] st = some (.ret (ustup (X2 k)),st):=by
 rw [j7.call]
 refine O7 ?_ rfl rfl (O5.refl _ _)
 rw [j7.b_eq]
 have q:∀ b,b = decide (k = 1∨k = 2∨k = 3∨k = 7∨k = 11∨k = 12)→j7.G9 k b st = some ⟨.ret (ustup (X2 k)),none,st⟩:=by
  intro b hb
  subst hb
  rw [j7.G9_e]
  unfold X2
  by_cases h:k = 1∨k = 2∨k = 3∨k = 7∨k = 11∨k = 12
  ·rw [O4 h,if_pos h]; rfl
  rw [O0 h,if_neg h]
  refine (bf rfl).trans ?_
  have q2:∀ b,b = decide (k = 4∨k = 5)→j7.N5 k b st = some ⟨.ret (ustup (if k = 4∨k = 5 then ⟨true,true,false,false,true⟩
    else if k = 6 then ⟨false,false,false,false,true⟩
    else if k = 8∨k = 9 then ⟨true,true,true,false,true⟩
    else if k = 10 then ⟨false,false,true,true,true⟩
    else ⟨false,false,false,false,false⟩)),none,st⟩:=by
   intro b hb
   subst hb
   rw [j7.N5_e]
   by_cases h4:k = 4∨k = 5
   ·rw [O4 h4,if_pos h4]; rfl
   rw [O0 h4,if_neg h4]
   refine (bf rfl).trans ?_
   by_cases h6:k = 6
   ·rw [O4 h6,if_pos h6]; rfl
   rw [O0 h6,if_neg h6]
   refine (bf rfl).trans ?_
   have q3:∀ b,b = decide (k = 8∨k = 9)→j7.L5 k b st = some ⟨.ret (ustup (if k = 8∨k = 9 then ⟨true,true,true,false,true⟩
     else if k = 10 then ⟨false,false,true,true,true⟩
     else ⟨false,false,false,false,false⟩)),none,st⟩:=by
    intro b hb
    subst hb
    rw [j7.L5_e]
    by_cases h8:k = 8∨k = 9
    ·rw [O4 h8,if_pos h8]; rfl
    rw [O0 h8,if_neg h8]
    refine (bf rfl).trans ?_
    by_cases h10:k = 10
    ·rw [O4 h10,if_pos h10]; rfl
    ·rw [O0 h10,if_neg h10]; rfl
   by_cases h8:k = 8
   ·rw [O4 h8]
    refine (bt rfl).trans ?_
    exact q3 _ (O4 (.inl h8)).symm
   ·rw [O0 h8]
    refine (bf rfl).trans ?_
    exact q3 _ (decide_eq_decide.2 ⟨fun h => .inr h,fun h=>h.elim (fun h=>absurd h h8) id⟩)
  by_cases h4:k = 4
  ·rw [O4 h4]
   refine (bt rfl).trans ?_
   exact q2 _ (O4 (.inl h4)).symm
  ·rw [O0 h4]
   refine (bf rfl).trans ?_
   exact q2 _ (decide_eq_decide.2 ⟨fun h => .inr h,fun h=>h.elim (fun h=>absurd h h4) id⟩)
 by_cases h1:k = 1
 ·rw [O4 h1]; refine (bt rfl).trans ?_; exact q _ (O4 (by omega)).symm
 rw [O0 h1]; refine (bf rfl).trans ?_
 by_cases h2:k = 2
 ·rw [O4 h2]; refine (bt rfl).trans ?_; exact q _ (O4 (by omega)).symm
 rw [O0 h2]; refine (bf rfl).trans ?_
 by_cases h3:k = 3
 ·rw [O4 h3]; refine (bt rfl).trans ?_; exact q _ (O4 (by omega)).symm
 rw [O0 h3]; refine (bf rfl).trans ?_
 by_cases h7:k = 7
 ·rw [O4 h7]; refine (bt rfl).trans ?_; exact q _ (O4 (by omega)).symm
 rw [O0 h7]; refine (bf rfl).trans ?_
 by_cases h11:k = 11
 ·rw [O4 h11]; refine (bt rfl).trans ?_; exact q _ (O4 (by omega)).symm
 rw [O0 h11]; refine (bf rfl).trans ?_
 exact q _ (decide_eq_decide.2 ⟨fun h=>by omega,fun h=>by omega⟩)
def Nums (l:List Int) (v:AV) (S:Sto):Prop:=P3 v = some l.length∧∀ i,i < l.length→∃ q,ia 1 v (.int .i64 ((i:Nat):Int)) = some q∧ld false 1 S q = some (.int .i64 (l.getD i 0))
theorem W4.nums {l:List Int} {v:AV} (h:W4 l v) (S:Sto):Nums l v S:=⟨h.1,fun i hi=>by
 obtain ⟨cs,a,rfl⟩:=h.2.2.2 i hi
 exact ⟨_,a,rfl⟩⟩
theorem a4s {o:OpA} {lv:AV} {st S:Sto} (hS:S = st ++ [Ob.cells 0 (oc o lv) 0]) {j:Nat} {c:AV} (hj:(oc o lv)[j]? = some c):ld false 1 S (.mp st.length 0 j) = some c:=by
 subst hS
 exact O8 (n:=j) P6 hj
theorem a1W {o:OpA} {lv:AV} (hl:W4 o.l lv) (hs:o.l.length ≤ 1050000) (st:Sto) :
  ∃ a b S',O1 ap 73 [.agg (oc o lv)] st = some (.ret (.tup [a,b]),S')∧Nums ((P7 o).map Prod.fst) a S'∧Nums ((P7 o).map Prod.snd) b S'∧∃ ex,S' = st ++ ex:=by
 obtain ⟨S,hS⟩:∃ S,S = st ++ [Ob.cells 0 (oc o lv) 0]:=⟨_,rfl⟩
 have r0:ld false 1 S (.mp st.length 0 0) = some (.int .i64 o.k):=a4s hS (j:=0) rfl
 have r1:ld false 1 S (.mp st.length 0 1) = some (.int .i64 o.a):=a4s hS (j:=1) rfl
 have r2:ld false 1 S (.mp st.length 0 2) = some (.int .i64 o.b):=a4s hS (j:=2) rfl
 have r4:ld false 1 S (.mp st.length 0 4) = some lv:=a4s hS (j:=4) rfl
 have hall:(AV.cells (.agg (oc o lv))).all AV.isCell = true:=by
  show (oc o lv).all AV.isCell = true
  simp only [oc,List.all_cons,List.all_nil,hl.2.1,Bool.and_true]
  rfl
 suffices hb:∃ a b S',w8.b (.agg (oc o lv)) st = some ⟨.ret (.tup [a,b]),none,S'⟩∧Nums ((P7 o).map Prod.fst) a S'∧Nums ((P7 o).map Prod.snd) b S'∧∃ ex,S' = st ++ ex by
  obtain ⟨a,b,S',e1,e2,e3,e4⟩:=hb
  refine ⟨a,b,S',?_,e2,e3,e4⟩
  rw [w8.call,e1]
  rfl
 have hSe:∃ ex,S = st ++ ex:=⟨_,hS⟩
 have lit1:∀ (x:Int) (T:Sto),(S8 false 1 1 (O9 (fun i=>some (i * 1,1)) [.int .i64 0] [(0, .int .i64 x)]) T) = some (.is [.int .i64 x] 1 .full,T):=fun _ _=>rfl
 have lit2:∀ (x y:Int) (T:Sto),(S8 false 2 1 (O9 (fun i=>some (i * 1,1)) [.int .i64 0, .int .i64 0] [(0, .int .i64 x),(1, .int .i64 y)]) T) = some (.is [.int .i64 x, .int .i64 y] 2 .full,T):=fun _ _ _=>rfl
 rw [w8.b_eq,if_pos hall]
 have hc:AV.cells (.agg (oc o lv)) = oc o lv:=rfl
 rw [hc,←hS]
 have viaR:∀ {a b:Option Res} {Q:AV→AV→Sto→Prop},a = b→(∃ x y S',b = some ⟨.ret (.tup [x,y]),none,S'⟩∧Q x y S')→∃ x y S',a = some ⟨.ret (.tup [x,y]),none,S'⟩∧Q x y S':=fun h k=>by rw [h]; exact k
 have q:∀ b,b = decide (o.k = 2∨o.k = 8∨o.k = 11)→∃ a c S',w8.G9 st.length (.int .i64 o.k) b S = some ⟨.ret (.tup [a,c]),none,S'⟩∧Nums ((P7 o).map Prod.fst) a S'∧Nums ((P7 o).map Prod.snd) c S'∧∃ ex,S' = st ++ ex:=by
  intro b hb
  subst hb
  rw [w8.G9_e]
  unfold P7
  by_cases h2:o.k = 2∨o.k = 8∨o.k = 11
  ·rw [O4 h2,if_pos h2]
   refine ⟨_,_,S,?_,(int1 o.a).nums S,(int1 0).nums S,hSe⟩
   refine (bt rfl).trans ?_
   refine (br r1).trans ?_
   refine (br (lit1 _ _)).trans ?_
   exact br (lit1 _ _)
  rw [O0 h2,if_neg h2]
  refine viaR (bf rfl) ?_
  refine viaR (br (aI _)) ?_
  by_cases h5:o.k = 5
  ·rw [O4 h5,if_pos h5]
   refine ⟨_,_,S,?_,(int1 o.b).nums S,(int1 0).nums S,hSe⟩
   refine (bt rfl).trans ?_
   refine (br r2).trans ?_
   refine (br (lit1 _ _)).trans ?_
   exact br (lit1 _ _)
  rw [O0 h5,if_neg h5]
  refine viaR (bf rfl) ?_
  refine viaR (br (aI _)) ?_
  by_cases h9:o.k = 9
  ·rw [O4 h9,if_pos h9]
   refine ⟨_,_,S,?_,(int2 o.a o.b).nums S,(int2 0 2).nums S,hSe⟩
   refine (bt rfl).trans ?_
   refine (br r1).trans ?_
   refine (br r2).trans ?_
   refine (br (lit2 _ _ _)).trans ?_
   exact br (lit2 _ _ _)
  rw [O0 h9,if_neg h9]
  refine viaR (bf rfl) ?_
  refine viaR (br (aI _)) ?_
  by_cases h10:o.k = 10
  ·rw [O4 h10,if_pos h10]
   obtain ⟨T,hT⟩:∃ T,T = S ++ [Ob.cells 0 (O6 (List.replicate o.l.length 0)) 0]:=⟨_,rfl⟩
   have hmk:mkS 1 8 [AV.int .i64 0] (.int .i64 ((o.l.length:Nat):Int)) (.int .i64 ((o.l.length:Nat):Int)) S = some (.ms S.length 0 0 o.l.length 1,T):=by
    simp only [mkS]
    rw [if_pos (by omega),reps_int,hT]
    simp
   have r4':ld false 1 T (.mp st.length 0 4) = some lv:=by
    refine O8 (g:=0) (fz:=0) (n:=4) (cs:=oc o lv) ?_ rfl
    rw [hT,hS]
    exact P8 P6
   have hTS:T[S.length]? = some (.cells 0 (O6 (List.replicate o.l.length 0)) 0):=by rw [hT]; simp
   have e1:(o.l.map fun x=>(x,(0:Int))).map Prod.fst = o.l:=by rw [List.map_map]; exact List.map_id _
   have e2:(o.l.map fun x=>(x,(0:Int))).map Prod.snd = List.replicate o.l.length 0:=by rw [List.map_map]; exact List.map_const'
   refine ⟨lv, .ms S.length 0 0 o.l.length 1,T,?_,by rw [e1]; exact hl.nums T,?_,by rw [hT,hS,List.append_assoc]; exact ⟨_,rfl⟩⟩
   ·refine (bt rfl).trans ?_
    refine (br r4).trans ?_
    refine (br r4).trans ?_
    refine (br hl.1).trans ?_
    refine (br hmk).trans ?_
    refine (br r4').trans ?_
    exact it rfl
   ·rw [e2]
    refine ⟨by simp [P3],fun i hi=>?_⟩
    rw [List.length_replicate] at hi
    refine ⟨.mp S.length 0 i,?_,?_⟩
    ·simp only [ia,if_true,P9 hi,Option.bind_some,Nat.zero_add,Nat.mul_one]
    ·refine O8 (n:=i) hTS ?_
     simp [O6,hi]
  rw [O0 h10,if_neg h10]
  refine ⟨_,_,S,bf rfl,int0.nums S,int0.nums S,hSe⟩
 refine viaR (br r0) ?_
 refine viaR (br (aI _)) ?_
 by_cases h2:o.k = 2
 ·rw [O4 h2]; refine viaR (bt rfl) ?_; exact q _ (O4 (by omega)).symm
 rw [O0 h2]; refine viaR (bf rfl) ?_
 refine viaR (br (aI _)) ?_
 by_cases h8:o.k = 8
 ·rw [O4 h8]; refine viaR (bt rfl) ?_; exact q _ (O4 (by omega)).symm
 rw [O0 h8]; refine viaR (bf rfl) ?_
 refine viaR (br (aI _)) ?_
 exact q _ (decide_eq_decide.2 ⟨fun h=>by omega,fun h=>by omega⟩)
theorem a3Y {o:OpA} {lv:AV} (hl:W4 o.l lv) (st:Sto):∃ v,O1 ap 75 [.agg (oc o lv)] st = some (.ret v,st)∧W4 ((O3 o).map Prod.fst) v:=by
 obtain ⟨S,hS⟩:∃ S,S = st ++ [Ob.cells 0 (oc o lv) 0]:=⟨_,rfl⟩
 have r0:ld false 1 S (.mp st.length 0 0) = some (.int .i64 o.k):=a4s hS (j:=0) rfl
 have r2:ld false 1 S (.mp st.length 0 2) = some (.int .i64 o.b):=a4s hS (j:=2) rfl
 have hall:(AV.cells (.agg (oc o lv))).all AV.isCell = true:=by
  show (oc o lv).all AV.isCell = true
  simp only [oc,List.all_cons,List.all_nil,hl.2.1,Bool.and_true]
  rfl
 have hc:AV.cells (.agg (oc o lv)) = oc o lv:=rfl
 have lit1:∀ (x:Int) (T:Sto),(S8 false 1 1 (O9 (fun i=>some (i * 1,1)) [.int .i64 0] [(0, .int .i64 x)]) T) = some (.is [.int .i64 x] 1 .full,T):=fun _ _=>rfl
 have ap0:∀ (x:Int) (T:Sto),X6 false false 1 8 .nils (.is [.int .i64 x] 1 .full) T = some (.is [.int .i64 x] 1 (.tip T.length 0 1),T ++ [.tip 0]):=fun _ _=>rfl
 have kS:O5 st.length st S:=by rw [hS]; exact O5.app (Nat.le_refl _)
 have hSl:S.length = st.length + 1:=by rw [hS]; simp
 have l1:∀ x:Int,W4 [x] (.is [.int .i64 x] 1 .no):=fun x=>⟨rfl,rfl,rfl,fun i hi=>by
  have:i = 0:=by simp at hi; exact hi
  subst this
  exact ⟨_,rfl,rfl⟩⟩
 have l2:∀ x y:Int,W4 [x,y] (.is [.int .i64 x, .int .i64 y] 2 .no):=fun x y=>⟨rfl,rfl,rfl,fun i hi=>by
  have:i = 0∨i = 1:=by simp at hi; omega
  rcases this with rfl | rfl
  ·exact ⟨_,rfl,rfl⟩
  ·exact ⟨_,rfl,rfl⟩⟩
 have half:∀ (t:AV) (pre:List Int) (T:Sto),O5 (st.length + 1) S T→S.length ≤ T.length→(pre = []∧t = .nils∨∃ x,pre = [x]∧t = .is [.int .i64 x] 1 (.tip S.length 0 1)∧T[S.length]? = some (.tip 0))→pre = (if o.k = 8∧o.b ≠ 0 then [o.b] else []) →
   ∃ v T',i4.I9 st.length t T = some ⟨.ret v,none,T'⟩∧O5 st.length st T'∧(v.strip st.length).old st.length = true∧W4 ((O3 o).map Prod.fst) (v.strip st.length):=by
  intro t pre T hk hTl ht hpre
  have g:T[st.length]? = some (.cells 0 (oc o lv) 0):=by rw [hk.at_ _ (by omega),hS]; exact P6
  have s0:ld false 1 T (.mp st.length 0 0) = some (.int .i64 o.k):=O8 (n:=0) g rfl
  have s3:ld false 1 T (.mp st.length 0 3) = some (.int .i64 o.c):=O8 (n:=3) g rfl
  have kT:O5 st.length st T:=kS.trans (V1 hk (by omega))
  have viaB:∀ {a b:Option Res} {Q:AV→Sto→Prop},a = b→(∃ v T',b = some ⟨.ret v,none,T'⟩∧Q v T')→∃ v T',a = some ⟨.ret v,none,T'⟩∧Q v T':=fun h k=>by rw [h]; exact k
  have q:∀ b,b = decide ((o.k = 8∧o.c ≠ 0)∨o.k = 9∨o.k = 10)→∃ v T',i4.G6 st.length t b T = some ⟨.ret v,none,T'⟩∧O5 st.length st T'∧(v.strip st.length).old st.length = true∧W4 ((O3 o).map Prod.fst) (v.strip st.length):=by
   intro b hb
   subst hb
   have hbel:(O3 o).map Prod.fst = pre ++ (if (o.k = 8∧o.c ≠ 0)∨o.k = 9∨o.k = 10 then [o.c] else []):=by
    rw [hpre]
    unfold O3 a1r
    by_cases h8:o.k = 8
    ·rw [if_pos h8]
     by_cases hb0:o.b = 0 <;> by_cases hc0:o.c = 0 <;> simp [h8,hb0,hc0]
    ·by_cases h9:o.k = 9
     ·simp [h8,h9]
     ·by_cases h10:o.k = 10
      ·simp [h8,h9,h10]
      ·simp [h8,h9,h10]
   rw [hbel,i4.G6_e]
   have pe:∀ (x:AV) (U:Sto),i4.F8 x U = some ⟨.ret x,none,U⟩:=fun _ _=>i4.F8_e _ _
   by_cases hc:(o.k = 8∧o.c ≠ 0)∨o.k = 9∨o.k = 10
   ·rw [O4 hc,if_pos hc]
    rcases ht with ⟨rfl,rfl⟩ | ⟨x,rfl,rfl,htip⟩
    ·refine ⟨.is [.int .i64 o.c] 1 (.tip T.length 0 1),T ++ [.tip 0],?_,kT.trans (O5.app (by omega)),?_,?_⟩
     ·refine (bt rfl).trans ?_
      refine (br s3).trans ?_
      refine (br (lit1 _ _)).trans ?_
      refine (br (ap0 _ _)).trans ?_
      exact pe _ _
     ·have:¬ T.length < st.length:=by omega
      simp [AV.strip,strips,Tok.strip,this,AV.old,olds,Tok.old]
     ·have:¬ T.length < st.length:=by omega
      simp only [AV.strip,strips,Tok.strip,this,if_false,List.nil_append]
      exact l1 _
    ·have hap:X6 false false 1 8 (.is [.int .i64 x] 1 (.tip S.length 0 1)) (.is [.int .i64 o.c] 1 .full) T = some (.is [.int .i64 x, .int .i64 o.c] 2 (.tip S.length 1 1),T.set S.length (.tip 1)):=by
      have htail:T6 false 1 T (.is [.int .i64 o.c] 1 .full) = some ([.int .i64 o.c],1):=rfl
      have hroom:room 8 (1 + 1) = true:=by decide
      simp only [X6,htail,Option.bind_some,htip,List.length_cons,List.length_nil,Nat.zero_add,Nat.mul_one,hroom,and_self,if_true]
      rfl
     refine ⟨.is [.int .i64 x, .int .i64 o.c] 2 (.tip S.length 1 1),T.set S.length (.tip 1),?_,kT.trans (O5.set (by omega)),?_,?_⟩
     ·refine (bt rfl).trans ?_
      refine (br s3).trans ?_
      refine (br (lit1 _ _)).trans ?_
      refine (br hap).trans ?_
      exact pe _ _
     ·have:¬ S.length < st.length:=by omega
      simp [AV.strip,strips,Tok.strip,this,AV.old,olds,Tok.old]
     ·have:¬ S.length < st.length:=by omega
      simp only [AV.strip,strips,Tok.strip,this,if_false]
      exact l2 _ _
   ·rw [O0 hc,if_neg hc,List.append_nil]
    refine ⟨t,T,(bf rfl).trans (pe _ _),kT,?_,?_⟩
    ·rcases ht with ⟨rfl,rfl⟩ | ⟨x,rfl,rfl,htip⟩
     ·rfl
     ·have:¬ S.length < st.length:=by omega
      simp [AV.strip,strips,Tok.strip,this,AV.old,olds,Tok.old]
    ·rcases ht with ⟨rfl,rfl⟩ | ⟨x,rfl,rfl,htip⟩
     ·exact int0
     ·have:¬ S.length < st.length:=by omega
      simp only [AV.strip,strips,Tok.strip,this,if_false]
      exact l1 _
  rw [i4.I9_e]
  refine viaB (br s0) ?_
  refine viaB (br (aI _)) ?_
  have second:∃ v T',((ld false 1 T (.mp st.length 0 0)).bind fun v12=>(asI .i64 v12).bind fun n13=>bif (decide (n13 = 9)) then (i4.G6 st.length t true T) else ((ld false 1 T (.mp st.length 0 0)).bind fun v14=>(asI .i64 v14).bind fun n15=>i4.G6 st.length t (decide (n15 = 10)) T)) = some ⟨.ret v,none,T'⟩∧(¬ (o.k = 8∧o.c ≠ 0)→O5 st.length st T'∧(v.strip st.length).old st.length = true∧W4 ((O3 o).map Prod.fst) (v.strip st.length)):=by
   by_cases hn:o.k = 8∧o.c ≠ 0
   ·obtain ⟨v,T',e,_⟩:=q true (O4 (.inl hn)).symm
    have h9:¬ o.k = 9:=by omega
    have h10:¬ o.k = 10:=by omega
    by_cases z:∃ v T',i4.G6 st.length t false T = some ⟨.ret v,none,T'⟩
    ·obtain ⟨v,T',e⟩:=z
     refine ⟨v,T',?_,fun h=>absurd hn h⟩
     refine (br s0).trans ?_
     refine (br (aI _)).trans ?_
     refine (bf (O0 h9)).trans ?_
     refine (br s0).trans ?_
     refine (br (aI _)).trans ?_
     rw [O0 h10]
     exact e
    ·exact absurd ⟨_,_,by rw [i4.G6_e]; exact (bf rfl).trans (i4.F8_e _ _)⟩ z
   ·by_cases h9:o.k = 9
    ·obtain ⟨v,T',e,h⟩:=q true (O4 (.inr (.inl h9))).symm
     refine ⟨v,T',?_,fun _=>h⟩
     refine (br s0).trans ?_
     refine (br (aI _)).trans ?_
     exact (bt (O4 h9)).trans e
    ·obtain ⟨v,T',e,h⟩:=q (decide (o.k = 10)) (decide_eq_decide.2 ⟨fun h => .inr (.inr h),fun h=>by rcases h with h | h | h; exact absurd h hn; exact absurd h h9; exact h⟩)
     refine ⟨v,T',?_,fun _=>h⟩
     refine (br s0).trans ?_
     refine (br (aI _)).trans ?_
     refine (bf (O0 h9)).trans ?_
     refine (br s0).trans ?_
     exact (br (aI _)).trans e
  by_cases h8:o.k = 8
  ·refine viaB (bt (O4 h8)) ?_
   refine viaB (br s3) ?_
   refine viaB (br (aI _)) ?_
   by_cases hc0:o.c = 0
   ·refine viaB (bf (by rw [O4 hc0]; rfl)) ?_
    obtain ⟨v,T',e,h⟩:=second
    exact ⟨v,T',e,h (fun h=>h.2 hc0)⟩
   ·refine viaB (bt (by rw [O0 hc0]; rfl)) ?_
    exact q true (O4 (.inl ⟨h8,hc0⟩)).symm
  ·refine viaB (bf (O0 h8)) ?_
   obtain ⟨v,T',e,h⟩:=second
   exact ⟨v,T',e,h (fun h=>h8 h.1)⟩
 suffices hb:∃ v T',i4.b (.agg (oc o lv)) st = some ⟨.ret v,none,T'⟩∧O5 st.length st T'∧(v.strip st.length).old st.length = true∧W4 ((O3 o).map Prod.fst) (v.strip st.length) by
  obtain ⟨v,T',e1,e2,e3,e4⟩:=hb
  refine ⟨v.strip st.length,?_,e4⟩
  rw [i4.call,e1]
  simp only [Option.bind_some]
  rw [gc_strip e3 e2]
 rw [i4.b_eq,if_pos hall,hc,←hS]
 have viaB:∀ {a b:Option Res} {Q:AV→Sto→Prop},a = b→(∃ v T',b = some ⟨.ret v,none,T'⟩∧Q v T')→∃ v T',a = some ⟨.ret v,none,T'⟩∧Q v T':=fun h k=>by rw [h]; exact k
 have q:∀ b,b = decide (o.k = 8∧o.b ≠ 0)→∃ v T',i4.F2 st.length b S = some ⟨.ret v,none,T'⟩∧O5 st.length st T'∧(v.strip st.length).old st.length = true∧W4 ((O3 o).map Prod.fst) (v.strip st.length):=by
  intro b hb
  subst hb
  rw [i4.F2_e]
  by_cases h:o.k = 8∧o.b ≠ 0
  ·rw [O4 h]
   refine viaB (bt rfl) ?_
   refine viaB (br r2) ?_
   refine viaB (br (lit1 _ _)) ?_
   refine viaB (br (ap0 _ _)) ?_
   exact half _ [o.b] _ (O5.app (by omega)) (by simp) (.inr ⟨o.b,rfl,rfl,by simp⟩) (if_pos h).symm
  ·rw [O0 h]
   refine viaB (bf rfl) ?_
   exact half _ [] _ (O5.refl _ _) (Nat.le_refl _) (.inl ⟨rfl,rfl⟩) (if_neg h).symm
 refine viaB (br r0) ?_
 refine viaB (br (aI _)) ?_
 by_cases h8:o.k = 8
 ·refine viaB (bt (O4 h8)) ?_
  refine viaB (br r2) ?_
  refine viaB (br (aI _)) ?_
  refine q _ ?_
  by_cases hb0:o.b = 0
  ·rw [O4 hb0,O0 (show ¬ (o.k = 8∧o.b ≠ 0) from fun h=>h.2 hb0)]; rfl
  ·rw [O0 hb0,O4 (show (o.k = 8∧o.b ≠ 0) from ⟨h8,hb0⟩)]; rfl
 ·refine viaB (bf (O0 h8)) ?_
  exact q _ (O0 (fun h=>h8 h.1)).symm
end Go.Proofs.YtcgepgahgihojaaGreatDoor
namespace Go.Proofs.YtcgepgahgihojaaGreatDoor
open Go.St Go.Lib
set_option linter.unusedVariables false
set_option linter.unusedSimpArgs false
structure Rx where
 inn:AV
 blk:Int
 place:Int
 fault:Int
 at_:Int
 dep:Int
 lv:AV
 nv:AV
def xc (tx cd sx bl:AV) (r:Rx):List AV:=[tx,cd,sx,bl,r.inn, .int .i64 r.blk, .int .i64 r.place, .int .i64 r.fault, .int .i64 r.at_, .int .i64 r.dep,r.lv,r.nv]
section
variable {p:PrA} {X:Nat} {tx cd sx bl:AV} {r:Rx} {S:Sto}
theorem a2y (hX:S[X]? = some (.cells 0 (xc tx cd sx bl r) 0)) (hT:TxV p.texts tx) (hs:∀ i,(p.texts.getD i ⟨#[]⟩).size ≤ 1050000) (a:Int):O1 ap 72 [.mp X 0 0, .int .i64 a] S = some (.ret (.bool (V5 p.texts a true)),S):=by
 rw [C1.call]
 refine O7 (st':=S) ?_ rfl rfl (O5.refl _ _)
 rw [C1.b_eq]
 refine (rdI hX (j:=0) (k:=0) rfl).trans ?_
 refine (br hT.1).trans ?_
 refine (cr (Z5 a _ S)).trans ?_
 refine (br (gB _)).trans ?_
 unfold V5
 cases hn:a0h a ((p.texts.length:Nat):Int) with
 | false=>exact gs.trans (bf rfl)
 | true=>
  have hr:0 ≤ a∧a < ((p.texts.length:Nat):Int):=by
   unfold a0h at hn
   simpa using hn
  obtain ⟨w,hw⟩:∃ w:Nat,a = (w:Int):=⟨a.toNat,by omega⟩
  obtain ⟨cs,hia,rfl⟩:=hT.2.2.2 w (by omega)
  refine gs.trans ?_
  refine (bt rfl).trans ?_
  refine (rdI hX (j:=0) (k:=0) rfl).trans ?_
  rw [hw,Int.toNat_natCast]
  refine (br hia).trans ?_
  refine (br (show ld false 1 S (.ip [.str (p.texts.getD w ⟨#[]⟩)]) = some (.str (p.texts.getD w ⟨#[]⟩)) from rfl)).trans ?_
  refine (cr (a1g _ (by have:=hs w; omega) S)).trans ?_
  exact br (aB _)
def okA (p:PrA) (o:OpA):Bool:=
 if o.k = 1 then a0h o.a ((p.texts.length:Nat):Int)
 else if o.k = 3∨o.k = 5 then V5 p.texts o.a true
 else if o.k = 4 then V5 p.texts o.a true && a0h o.b ((p.texts.length:Nat):Int)
 else if o.k = 7 then a0h o.a ((p.statics.len:Nat):Int)
 else if o.k = 12 then decide (1 ≤ o.a)
 else true
def badA (i:Int) (o:OpA):Bool:=
 decide (8192 ≤ i) || (!(X2 o.k).ok || ((!(X2 o.k).a && !decide (o.a = 0)) || ((!(X2 o.k).b && !decide (o.b = 0)) || ((!(X2 o.k).c && !decide (o.c = 0)) || ((!(X2 o.k).l && decide (0 < ((o.l.length:Nat):Int))) || decide (64 < ((o.l.length:Nat):Int)))))))
theorem form_same (p:PrA) (i:Nat) (o:OpA):Y6 p i o = (!badA ((i:Nat):Int) o && (okA p o && (P7 o).all (fun c=>a0h c.1 ((p.codes.length:Nat):Int)))):=by
 obtain ⟨k,a,b,c,l⟩:=o
 have e0:decide (8192 ≤ ((i:Nat):Int)) = decide (8192 ≤ i):=decide_eq_decide.2 ⟨fun h=>by omega,fun h=>by omega⟩
 have e1:decide (64 < ((l.length:Nat):Int)) = decide (64 < l.length):=decide_eq_decide.2 ⟨fun h=>by omega,fun h=>by omega⟩
 have e2:decide (0 < ((l.length:Nat):Int)) = !decide (l.length = 0):=by
  by_cases h:l.length = 0
  ·rw [O4 h,O0 (by omega)]; rfl
  ·rw [O0 h,O4 (by omega)]; rfl
 have e3:64 < l.length→¬ l.length = 0:=fun h=>by omega
 unfold Y6 badA
 simp only [e0,e1,e2]
 obtain ⟨al,hal⟩:∃ al,al = (P7 ⟨k,a,b,c,l⟩).all (fun c=>a0h c.1 ((p.codes.length:Nat):Int)):=⟨_,rfl⟩
 rw [←hal]
 obtain ⟨P,hP⟩:∃ P,P = decide (8192 ≤ i):=⟨_,rfl⟩
 obtain ⟨Q,hQ⟩:∃ Q,Q = decide (64 < l.length):=⟨_,rfl⟩
 obtain ⟨A0,hA0⟩:∃ Q,Q = decide (a = 0):=⟨_,rfl⟩
 obtain ⟨B0,hB0⟩:∃ Q,Q = decide (b = 0):=⟨_,rfl⟩
 obtain ⟨C0,hC0⟩:∃ Q,Q = decide (c = 0):=⟨_,rfl⟩
 obtain ⟨N0,hN0⟩:∃ Q,Q = decide (l.length = 0):=⟨_,rfl⟩
 rw [←hP,←hQ,←hA0,←hB0,←hC0,←hN0]
 have tf:∀ x,V5 p.texts x false = a0h x ((p.texts.length:Nat):Int):=fun x=>by unfold V5; simp
 by_cases k1:k = 1
 ·subst k1
  have f1:a00 p ⟨1,a,b,c,l⟩ = (((decide (b = 0) && (decide (c = 0) && true)) && (false || decide (l.length = 0))) && V5 p.texts a false):=rfl
  have f2:okA p ⟨1,a,b,c,l⟩ = a0h a ((p.texts.length:Nat):Int):=rfl
  rw [f1,f2,tf,←hB0,←hC0,←hN0]
  simp only [show X2 1 = ⟨true,false,false,false,true⟩ from rfl]
  cases P <;> cases Q <;> cases B0 <;> cases C0 <;> cases N0 <;> cases a0h a ((p.texts.length:Nat):Int) <;> cases al <;> rfl
 by_cases k2:k = 2
 ·subst k2
  have f1:a00 p ⟨2,a,b,c,l⟩ = ((decide (b = 0) && (decide (c = 0) && true)) && (false || decide (l.length = 0))):=rfl
  have f2:okA p ⟨2,a,b,c,l⟩ = true:=rfl
  rw [f1,f2,←hB0,←hC0,←hN0]
  simp only [show X2 2 = ⟨true,false,false,false,true⟩ from rfl]
  cases P <;> cases Q <;> cases B0 <;> cases C0 <;> cases N0 <;> cases al <;> rfl
 by_cases k3:k = 3
 ·subst k3
  have f1:a00 p ⟨3,a,b,c,l⟩ = (((decide (b = 0) && (decide (c = 0) && true)) && (false || decide (l.length = 0))) && V5 p.texts a true):=rfl
  have f2:okA p ⟨3,a,b,c,l⟩ = V5 p.texts a true:=rfl
  rw [f1,f2,←hB0,←hC0,←hN0]
  simp only [show X2 3 = ⟨true,false,false,false,true⟩ from rfl]
  cases P <;> cases Q <;> cases B0 <;> cases C0 <;> cases N0 <;> cases V5 p.texts a true <;> cases al <;> rfl
 by_cases k4:k = 4
 ·subst k4
  have f1:a00 p ⟨4,a,b,c,l⟩ = (((decide (c = 0) && true) && (false || decide (l.length = 0))) && (V5 p.texts a true && V5 p.texts b false)):=rfl
  have f2:okA p ⟨4,a,b,c,l⟩ = (V5 p.texts a true && a0h b ((p.texts.length:Nat):Int)):=rfl
  rw [f1,f2,tf,←hC0,←hN0]
  simp only [show X2 4 = ⟨true,true,false,false,true⟩ from rfl]
  cases P <;> cases Q <;> cases C0 <;> cases N0 <;> cases V5 p.texts a true <;> cases a0h b ((p.texts.length:Nat):Int) <;> cases al <;> rfl
 by_cases k5:k = 5
 ·subst k5
  have f1:a00 p ⟨5,a,b,c,l⟩ = (((decide (c = 0) && true) && (false || decide (l.length = 0))) && V5 p.texts a true):=rfl
  have f2:okA p ⟨5,a,b,c,l⟩ = V5 p.texts a true:=rfl
  rw [f1,f2,←hC0,←hN0]
  simp only [show X2 5 = ⟨true,true,false,false,true⟩ from rfl]
  cases P <;> cases Q <;> cases C0 <;> cases N0 <;> cases V5 p.texts a true <;> cases al <;> rfl
 by_cases k6:k = 6
 ·subst k6
  have f1:a00 p ⟨6,a,b,c,l⟩ = ((decide (a = 0) && (decide (b = 0) && (decide (c = 0) && true))) && (false || decide (l.length = 0))):=rfl
  have f2:okA p ⟨6,a,b,c,l⟩ = true:=rfl
  rw [f1,f2,←hA0,←hB0,←hC0,←hN0]
  simp only [show X2 6 = ⟨false,false,false,false,true⟩ from rfl]
  cases P <;> cases Q <;> cases A0 <;> cases B0 <;> cases C0 <;> cases N0 <;> cases al <;> rfl
 by_cases k7:k = 7
 ·subst k7
  have f1:a00 p ⟨7,a,b,c,l⟩ = (((decide (b = 0) && (decide (c = 0) && true)) && (false || decide (l.length = 0))) && a0h a ((p.statics.len:Nat):Int)):=rfl
  have f2:okA p ⟨7,a,b,c,l⟩ = a0h a ((p.statics.len:Nat):Int):=rfl
  rw [f1,f2,←hB0,←hC0,←hN0]
  simp only [show X2 7 = ⟨true,false,false,false,true⟩ from rfl]
  cases P <;> cases Q <;> cases B0 <;> cases C0 <;> cases N0 <;> cases a0h a ((p.statics.len:Nat):Int) <;> cases al <;> rfl
 by_cases k8:k = 8∨k = 9
 ·have f1:a00 p ⟨k,a,b,c,l⟩ = (true && (false || decide (l.length = 0))):=by rcases k8 with rfl | rfl <;> rfl
  have f2:okA p ⟨k,a,b,c,l⟩ = true:=by rcases k8 with rfl | rfl <;> rfl
  have f3:X2 k = ⟨true,true,true,false,true⟩:=by rcases k8 with rfl | rfl <;> rfl
  rw [f1,f2,←hN0]
  simp only [f3]
  cases P <;> cases Q <;> cases N0 <;> cases al <;> rfl
 by_cases k10:k = 10
 ·subst k10
  have f1:a00 p ⟨10,a,b,c,l⟩ = ((decide (a = 0) && (decide (b = 0) && true)) && (true || decide (l.length = 0))):=rfl
  have f2:okA p ⟨10,a,b,c,l⟩ = true:=rfl
  rw [f1,f2,←hA0,←hB0]
  simp only [show X2 10 = ⟨false,false,true,true,true⟩ from rfl]
  cases P <;> cases Q <;> cases A0 <;> cases B0 <;> cases al <;> rfl
 by_cases k11:k = 11
 ·subst k11
  have f1:a00 p ⟨11,a,b,c,l⟩ = ((decide (b = 0) && (decide (c = 0) && true)) && (false || decide (l.length = 0))):=rfl
  have f2:okA p ⟨11,a,b,c,l⟩ = true:=rfl
  rw [f1,f2,←hB0,←hC0,←hN0]
  simp only [show X2 11 = ⟨true,false,false,false,true⟩ from rfl]
  cases P <;> cases Q <;> cases B0 <;> cases C0 <;> cases N0 <;> cases al <;> rfl
 by_cases k12:k = 12
 ·subst k12
  have f1:a00 p ⟨12,a,b,c,l⟩ = (((decide (b = 0) && (decide (c = 0) && true)) && (false || decide (l.length = 0))) && decide (1 ≤ a)):=rfl
  have f2:okA p ⟨12,a,b,c,l⟩ = decide (1 ≤ a):=rfl
  rw [f1,f2,←hB0,←hC0,←hN0]
  simp only [show X2 12 = ⟨true,false,false,false,true⟩ from rfl]
  cases P <;> cases Q <;> cases B0 <;> cases C0 <;> cases N0 <;> cases decide (1 ≤ a) <;> cases al <;> rfl
 have f1:a00 p ⟨k,a,b,c,l⟩ = false:=by
  unfold a00
  simp only
  rw [if_neg k1,if_neg k3,if_neg k4,if_neg k5,if_neg k6,if_neg k7,if_neg k12,if_neg (by omega),if_neg k8,if_neg k10]
 have f3:X2 k = ⟨false,false,false,false,false⟩:=by
  unfold X2
  rw [if_neg (by omega),if_neg (by omega),if_neg k6,if_neg k8,if_neg k10]
 rw [f1]
 simp only [f3]
 cases P <;> cases Q <;> cases al <;> rfl
theorem op_bad {T:Sto} {n:Nat} {o:OpA} {lv:AV} (hl:W4 o.l lv) (hT:T[n]? = some (.cells 0 (oc o lv) 0)) (G:Bool→Option Res) (i:Int) (u:Us) :
  (bif (decide (8192 ≤ i)) then (G true) else ((asB (.bool u.ok)).bind fun q14=>bif (!q14) then (G true) else ((asB (.bool u.a)).bind fun q15=>bif (!q15) then ((ld false 1 T (.mp n 0 1)).bind fun v16=>(asI .i64 v16).bind fun n17=>bif (!decide (n17 = 0)) then (G true) else ((asB (.bool u.b)).bind fun q18=>bif (!q18) then ((ld false 1 T (.mp n 0 2)).bind fun v19=>(asI .i64 v19).bind fun n20=>bif (!decide (n20 = 0)) then (G true) else ((asB (.bool u.c)).bind fun q21=>bif (!q21) then ((ld false 1 T (.mp n 0 3)).bind fun v22=>(asI .i64 v22).bind fun n23=>bif (!decide (n23 = 0)) then (G true) else ((asB (.bool u.l)).bind fun q24=>bif (!q24) then ((ld false 1 T (.mp n 0 4)).bind fun v25=>(P3 v25).bind fun m26=>bif (decide (0 < ((m26:Nat):Int))) then (G true) else ((ld false 1 T (.mp n 0 4)).bind fun v27=>(P3 v27).bind fun m28=>G (decide (64 < ((m28:Nat):Int))))) else ((ld false 1 T (.mp n 0 4)).bind fun v29=>(P3 v29).bind fun m30=>G (decide (64 < ((m30:Nat):Int)))))) else ((asB (.bool u.l)).bind fun q31=>bif (!q31) then ((ld false 1 T (.mp n 0 4)).bind fun v32=>(P3 v32).bind fun m33=>bif (decide (0 < ((m33:Nat):Int))) then (G true) else ((ld false 1 T (.mp n 0 4)).bind fun v34=>(P3 v34).bind fun m35=>G (decide (64 < ((m35:Nat):Int))))) else ((ld false 1 T (.mp n 0 4)).bind fun v36=>(P3 v36).bind fun m37=>G (decide (64 < ((m37:Nat):Int))))))) else ((asB (.bool u.c)).bind fun q38=>bif (!q38) then ((ld false 1 T (.mp n 0 3)).bind fun v39=>(asI .i64 v39).bind fun n40=>bif (!decide (n40 = 0)) then (G true) else ((asB (.bool u.l)).bind fun q41=>bif (!q41) then ((ld false 1 T (.mp n 0 4)).bind fun v42=>(P3 v42).bind fun m43=>bif (decide (0 < ((m43:Nat):Int))) then (G true) else ((ld false 1 T (.mp n 0 4)).bind fun v44=>(P3 v44).bind fun m45=>G (decide (64 < ((m45:Nat):Int))))) else ((ld false 1 T (.mp n 0 4)).bind fun v46=>(P3 v46).bind fun m47=>G (decide (64 < ((m47:Nat):Int)))))) else ((asB (.bool u.l)).bind fun q48=>bif (!q48) then ((ld false 1 T (.mp n 0 4)).bind fun v49=>(P3 v49).bind fun m50=>bif (decide (0 < ((m50:Nat):Int))) then (G true) else ((ld false 1 T (.mp n 0 4)).bind fun v51=>(P3 v51).bind fun m52=>G (decide (64 < ((m52:Nat):Int))))) else ((ld false 1 T (.mp n 0 4)).bind fun v53=>(P3 v53).bind fun m54=>G (decide (64 < ((m54:Nat):Int)))))))) else ((asB (.bool u.b)).bind fun q55=>bif (!q55) then ((ld false 1 T (.mp n 0 2)).bind fun v56=>(asI .i64 v56).bind fun n57=>bif (!decide (n57 = 0)) then (G true) else ((asB (.bool u.c)).bind fun q58=>bif (!q58) then ((ld false 1 T (.mp n 0 3)).bind fun v59=>(asI .i64 v59).bind fun n60=>bif (!decide (n60 = 0)) then (G true) else ((asB (.bool u.l)).bind fun q61=>bif (!q61) then ((ld false 1 T (.mp n 0 4)).bind fun v62=>(P3 v62).bind fun m63=>bif (decide (0 < ((m63:Nat):Int))) then (G true) else ((ld false 1 T (.mp n 0 4)).bind fun v64=>(P3 v64).bind fun m65=>G (decide (64 < ((m65:Nat):Int))))) else ((ld false 1 T (.mp n 0 4)).bind fun v66=>(P3 v66).bind fun m67=>G (decide (64 < ((m67:Nat):Int)))))) else ((asB (.bool u.l)).bind fun q68=>bif (!q68) then ((ld false 1 T (.mp n 0 4)).bind fun v69=>(P3 v69).bind fun m70=>bif (decide (0 < ((m70:Nat):Int))) then (G true) else ((ld false 1 T (.mp n 0 4)).bind fun v71=>(P3 v71).bind fun m72=>G (decide (64 < ((m72:Nat):Int))))) else ((ld false 1 T (.mp n 0 4)).bind fun v73=>(P3 v73).bind fun m74=>G (decide (64 < ((m74:Nat):Int))))))) else ((asB (.bool u.c)).bind fun q75=>bif (!q75) then ((ld false 1 T (.mp n 0 3)).bind fun v76=>(asI .i64 v76).bind fun n77=>bif (!decide (n77 = 0)) then (G true) else ((asB (.bool u.l)).bind fun q78=>bif (!q78) then ((ld false 1 T (.mp n 0 4)).bind fun v79=>(P3 v79).bind fun m80=>bif (decide (0 < ((m80:Nat):Int))) then (G true) else ((ld false 1 T (.mp n 0 4)).bind fun v81=>(P3 v81).bind fun m82=>G (decide (64 < ((m82:Nat):Int))))) else ((ld false 1 T (.mp n 0 4)).bind fun v83=>(P3 v83).bind fun m84=>G (decide (64 < ((m84:Nat):Int)))))) else ((asB (.bool u.l)).bind fun q85=>bif (!q85) then ((ld false 1 T (.mp n 0 4)).bind fun v86=>(P3 v86).bind fun m87=>bif (decide (0 < ((m87:Nat):Int))) then (G true) else ((ld false 1 T (.mp n 0 4)).bind fun v88=>(P3 v88).bind fun m89=>G (decide (64 < ((m89:Nat):Int))))) else ((ld false 1 T (.mp n 0 4)).bind fun v90=>(P3 v90).bind fun m91=>G (decide (64 < ((m91:Nat):Int)))))))))) =
  G (decide (8192 ≤ i) || (!u.ok || ((!u.a && !decide (o.a = 0)) || ((!u.b && !decide (o.b = 0)) || ((!u.c && !decide (o.c = 0)) || ((!u.l && decide (0 < ((o.l.length:Nat):Int))) || decide (64 < ((o.l.length:Nat):Int)))))))):=by
 have r1:ld false 1 T (.mp n 0 1) = some (.int .i64 o.a):=O8 (n:=1) hT rfl
 have r2:ld false 1 T (.mp n 0 2) = some (.int .i64 o.b):=O8 (n:=2) hT rfl
 have r3:ld false 1 T (.mp n 0 3) = some (.int .i64 o.c):=O8 (n:=3) hT rfl
 have r4:ld false 1 T (.mp n 0 4) = some lv:=O8 (n:=4) hT rfl
 simp only [r1,r2,r3,r4,hl.1,Option.bind_some,asB,asI,if_true]
 obtain ⟨a,b,c,l,ok⟩:=u
 simp only
 cases decide (8192 ≤ i) with
 | true=>rfl
 | false=>
  cases ok with
  | false=>rfl
  | true=>
   cases a <;> cases b <;> cases c <;> cases l <;> cases decide (o.a = 0) <;> cases decide (o.b = 0) <;> cases decide (o.c = 0) <;> cases decide (0 < ((o.l.length:Nat):Int)) <;> rfl
theorem refOp_loop (hX:S[X]? = some (.cells 0 (xc tx cd sx bl r) 0)) (hC:CdV p.codes cd) {cs:List Int} {v:AV} (hN:Nums cs v S) (hcl:cs.length ≤ 1050000):∀ (m i:Nat) (b:Bool),i + m = cs.length →
  b9.F9 (.mp X 0 0) (.bool b) v ((i:Nat):Int) S = some ⟨.ret (.bool (!(b && (cs.drop i).all (fun c=>a0h c ((p.codes.length:Nat):Int))))),none,S⟩:=by
 intro m
 induction m with
 | zero=>
  intro i b him
  rw [b9.F9_e]
  refine (br hN.1).trans ?_
  refine (bf (O0 (by omega))).trans ?_
  rw [List.drop_of_length_le (by omega)]
  refine (br (aB _)).trans ?_
  simp
 | succ m ih=>
  intro i b him
  have hi:i < cs.length:=by omega
  have w1:IntKind.wrap .i64 (((i:Nat):Int) + 1) = ((i + 1:Nat):Int):=w64 _ (by omega) (by omega)
  have hd:cs.drop i = cs.getD i 0 :: cs.drop (i + 1):=by
   rw [List.drop_eq_getElem_cons hi,List.getD_eq_getElem?_getD,List.getElem?_eq_getElem hi]; rfl
  obtain ⟨q,hq1,hq2⟩:=hN.2 i hi
  have go:∀ b2,b9.L4 (.mp X 0 0) b2 v ((i:Nat):Int) S = some ⟨.ret (.bool (!(b2 && (cs.drop (i + 1)).all (fun c=>a0h c ((p.codes.length:Nat):Int))))),none,S⟩:=fun b2=>by
   rw [b9.L4_e,w1]
   exact ih (i + 1) b2 (by omega)
  rw [b9.F9_e,hd]
  refine (br hN.1).trans ?_
  refine (bt (O4 (by omega))).trans ?_
  refine (br (gB _)).trans ?_
  refine gs.trans ?_
  cases b with
  | false=>
   refine (bf rfl).trans ?_
   rw [go]
   simp
  | true=>
   refine (bt rfl).trans ?_
   refine (br hq1).trans ?_
   refine (br hq2).trans ?_
   refine (rdI hX (j:=0) (k:=1) rfl).trans ?_
   refine (br hC.1).trans ?_
   refine (cr (Z5 _ _ S)).trans ?_
   refine (it rfl).trans ?_
   refine (br (aB _)).trans ?_
   rw [go,List.all_cons]
   simp
theorem refOp_spec (hX:S[X]? = some (.cells 0 (xc tx cd sx bl r) 0)) (hT:TxV p.texts tx) (hC:CdV p.codes cd) (hSx:FoM p.statics sx) (hs:∀ i,(p.texts.getD i ⟨#[]⟩).size ≤ 1050000) {o:OpA} {lv:AV} (hl:W4 o.l lv) (hll:o.l.length ≤ 1050000) (i:Nat) (hi:r.at_ = ((i:Nat):Int)) :
  O1 ap 40 [.mp X 0 0, .agg (oc o lv)] S = some (.ret (.bool (!Y6 p i o)),S):=by
 obtain ⟨T,hT'⟩:∃ T,T = S ++ [Ob.cells 0 (oc o lv) 0]:=⟨_,rfl⟩
 have hX1:T[X]? = some (.cells 0 (xc tx cd sx bl r) 0):=by rw [hT']; exact P8 hX
 have hTn:T[S.length]? = some (.cells 0 (oc o lv) 0):=by rw [hT']; exact P6
 have kT:O5 S.length S T:=by rw [hT']; exact O5.app (Nat.le_refl _)
 have hall:(AV.cells (.agg (oc o lv))).all AV.isCell = true:=by
  show (oc o lv).all AV.isCell = true
  simp only [oc,List.all_cons,List.all_nil,hl.2.1,Bool.and_true]
  rfl
 have hc:AV.cells (.agg (oc o lv)) = oc o lv:=rfl
 have r0:ld false 1 T (.mp S.length 0 0) = some (.int .i64 o.k):=O8 (n:=0) hTn rfl
 have r1:ld false 1 T (.mp S.length 0 1) = some (.int .i64 o.a):=O8 (n:=1) hTn rfl
 have r2:ld false 1 T (.mp S.length 0 2) = some (.int .i64 o.b):=O8 (n:=2) hTn rfl
 have r5:ld true 5 T (.mp S.length 0 0) = some (.agg (oc o lv)):=Z7 hTn rfl
 have hcl:=a0S hll
 have fin:∀ b,∃ S',b9.F8 (.mp X 0 0) S.length (.bool b) T = some ⟨.ret (.bool (!(b && (P7 o).all (fun c=>a0h c.1 ((p.codes.length:Nat):Int))))),none,S'⟩∧O5 S.length S S':=by
  intro b
  obtain ⟨x,y,S',e1,e2,e3,ex,e4⟩:=a1W hl hll T
  have hX2:S'[X]? = some (.cells 0 (xc tx cd sx bl r) 0):=by rw [e4]; exact P8 hX1
  refine ⟨S',?_,kT.trans (by rw [e4]; exact O5.app (by rw [hT']; simp))⟩
  rw [b9.F8_e]
  refine (br r5).trans ?_
  refine (cr e1).trans ?_
  refine (br (x0 _ _)).trans ?_
  refine (br (x1 _ _ _)).trans ?_
  have:=refOp_loop hX2 hC e2 (by rw [List.length_map]; exact hcl) ((P7 o).map Prod.fst).length 0 b (by omega)
  rw [List.drop_zero,List.all_map] at this
  exact this
 have viaS:∀ {a b:Option Res} {w:Bool},a = b→(∃ S',b = some ⟨.ret (.bool w),none,S'⟩∧O5 S.length S S')→∃ S',a = some ⟨.ret (.bool w),none,S'⟩∧O5 S.length S S':=fun h k=>by rw [h]; exact k
 suffices hb:∃ S',b9.b (.mp X 0 0) (.agg (oc o lv)) S = some ⟨.ret (.bool (!Y6 p i o)),none,S'⟩∧O5 S.length S S' by
  obtain ⟨S',e1,e2⟩:=hb
  rw [b9.call]
  exact O7 e1 rfl rfl e2
 rw [b9.b_eq,if_pos hall,hc,←hT',form_same]
 refine viaS (br r0) ?_
 refine viaS (cr (used_spec o.k T)) ?_
 refine viaS (br (x0 _ _)) ?_
 refine viaS (br (x1 _ _ _)) ?_
 refine viaS (br (x2 _ _ _ _)) ?_
 refine viaS (br (show ext (ustup (X2 o.k)) 3 = some (.bool (X2 o.k).l) from rfl)) ?_
 refine viaS (br (show ext (ustup (X2 o.k)) 4 = some (.bool (X2 o.k).ok) from rfl)) ?_
 refine viaS (rdM hX1 (k:=8) rfl) ?_
 refine viaS (br (aI _)) ?_
 rw [hi]
 refine viaS (op_bad hl hTn (fun b=>b9.F2 (.mp X 0 0) S.length (.bool (X2 o.k).ok) b T) ((i:Nat):Int) (X2 o.k)) ?_
 show ∃ S',b9.F2 (.mp X 0 0) S.length (.bool (X2 o.k).ok) (badA ((i:Nat):Int) o) T = _∧_
 rw [b9.F2_e]
 cases hbad:badA ((i:Nat):Int) o with
 | true=>exact ⟨T,bt rfl,kT⟩
 | false=>
  have huse:(X2 o.k).ok = true:=by
   cases h:(X2 o.k).ok with
   | true=>rfl
   | false=>
    unfold badA at hbad
    rw [h] at hbad
    cases decide (8192 ≤ ((i:Nat):Int)) <;> simp at hbad
  rw [huse]
  simp only [Bool.not_false,Bool.true_and]
  refine viaS (bf rfl) ?_
  refine viaS (br r0) ?_
  refine viaS (br (aI _)) ?_
  unfold okA
  by_cases k1:o.k = 1
  ·rw [if_pos k1]
   refine viaS (bt (O4 k1)) ?_
   refine viaS (br r1) ?_
   refine viaS (rdI hX1 (j:=0) (k:=0) rfl) ?_
   refine viaS (br hT.1) ?_
   refine viaS (cr (Z5 _ _ T)) ?_
   refine viaS (it rfl) ?_
   exact fin _
  rw [if_neg k1]
  refine viaS (bf (O0 k1)) ?_
  refine viaS (br (aI _)) ?_
  have q:∀ b,b = decide (o.k = 3∨o.k = 5)→∃ S',b9.N1 (.mp X 0 0) S.length (.bool true) (.int .i64 o.k) b T = some ⟨.ret (.bool (!((if o.k = 3∨o.k = 5 then V5 p.texts o.a true
 else if o.k = 4 then V5 p.texts o.a true && a0h o.b ((p.texts.length:Nat):Int)
 else if o.k = 7 then a0h o.a ((p.statics.len:Nat):Int)
 else if o.k = 12 then decide (1 ≤ o.a)
 else true) && (P7 o).all (fun c=>a0h c.1 ((p.codes.length:Nat):Int))))),none,S'⟩∧O5 S.length S S':=by
   intro b hb
   subst hb
   rw [b9.N1_e]
   by_cases k3:o.k = 3∨o.k = 5
   ·rw [O4 k3,if_pos k3]
    refine viaS (bt rfl) ?_
    refine viaS (br r1) ?_
    refine viaS (cr (a2y hX1 hT hs o.a)) ?_
    exact fin _
   rw [O0 k3,if_neg k3]
   refine viaS (bf rfl) ?_
   refine viaS (br (aI _)) ?_
   by_cases k4:o.k = 4
   ·rw [if_pos k4]
    refine viaS (bt (O4 k4)) ?_
    refine viaS (br r1) ?_
    refine viaS (cr (a2y hX1 hT hs o.a)) ?_
    refine viaS (it rfl) ?_
    refine viaS (br (gB _)) ?_
    refine viaS gs ?_
    cases ht:V5 p.texts o.a true with
    | false=>
     refine viaS (bf rfl) ?_
     exact fin false
    | true=>
     refine viaS (bt rfl) ?_
     refine viaS (br r2) ?_
     refine viaS (rdI hX1 (j:=0) (k:=0) rfl) ?_
     refine viaS (br hT.1) ?_
     refine viaS (cr (Z5 _ _ T)) ?_
     refine viaS (it rfl) ?_
     refine viaS (br (aB _)) ?_
     exact fin _
   rw [if_neg k4]
   refine viaS (bf (O0 k4)) ?_
   refine viaS (br (aI _)) ?_
   by_cases k7:o.k = 7
   ·rw [if_pos k7]
    refine viaS (bt (O4 k7)) ?_
    refine viaS (br r1) ?_
    refine viaS (rdI hX1 (j:=0) (k:=2) rfl) ?_
    refine viaS (br hSx.fov.len) ?_
    refine viaS (cr (Z5 _ _ T)) ?_
    refine viaS (it rfl) ?_
    exact fin _
   rw [if_neg k7]
   refine viaS (bf (O0 k7)) ?_
   refine viaS (br (aI _)) ?_
   by_cases k12:o.k = 12
   ·rw [if_pos k12]
    refine viaS (bt (O4 k12)) ?_
    refine viaS (br r1) ?_
    refine viaS (br (aI _)) ?_
    exact fin _
   rw [if_neg k12]
   refine viaS (bf (O0 k12)) ?_
   exact fin true
  by_cases k3:o.k = 3
  ·refine viaS (bt (O4 k3)) ?_
   rw [O4 k3]
   exact q _ (O4 (.inl k3)).symm
  ·refine viaS (bf (O0 k3)) ?_
   refine viaS (br (aI _)) ?_
   exact q _ (decide_eq_decide.2 ⟨fun h => .inr h,fun h=>h.elim (fun h=>absurd h k3) id⟩)
theorem refCode_loop (hX:S[X]? = some (.cells 0 (xc tx cd sx bl r) 0)) (hT:TxV p.texts tx) (hC:CdV p.codes cd) {cs:List (Int × Int)} {v w:AV} (hV:Nums (cs.map Prod.fst) v S) (hW:Nums (cs.map Prod.snd) w S) (hcl:cs.length ≤ 1050000) (hr:∀ c ∈ cs,0 ≤ c.1∧c.1 < ((p.codes.length:Nat):Int)) {k:Bk} (hk:r.dep = k.depth):∀ (m i:Nat),i + m = cs.length →
  p9.F0 (.mp X 0 0) v w ((i:Nat):Int) S = some ⟨.ret (.bool (!((cs.drop i).all (a14 p k)))),none,S⟩:=by
 have hl1:=hV.1
 rw [List.length_map] at hl1
 intro m
 induction m with
 | zero=>
  intro i him
  rw [p9.F0_e]
  refine (br hl1).trans ?_
  refine (bf (O0 (by omega))).trans ?_
  rw [List.drop_of_length_le (by omega)]
  rfl
 | succ m ih=>
  intro i him
  have hi:i < cs.length:=by omega
  have w1:IntKind.wrap .i64 (((i:Nat):Int) + 1) = ((i + 1:Nat):Int):=w64 _ (by omega) (by omega)
  obtain ⟨c,hcx⟩:∃ c,cs[i]? = some c:=⟨_,List.getElem?_eq_getElem hi⟩
  have hd:cs.drop i = c :: cs.drop (i + 1):=by
   rw [List.drop_eq_getElem_cons hi,(List.getElem?_eq_some_iff.1 hcx).2]
  obtain ⟨q1,a1,a2⟩:=hV.2 i (by rw [List.length_map]; exact hi)
  obtain ⟨q2,b1,b2⟩:=hW.2 i (by rw [List.length_map]; exact hi)
  have g1:(cs.map Prod.fst).getD i 0 = c.1:=by rw [List.getD_eq_getElem?_getD,List.getElem?_map,hcx]; rfl
  have g2:(cs.map Prod.snd).getD i 0 = c.2:=by rw [List.getD_eq_getElem?_getD,List.getElem?_map,hcx]; rfl
  rw [g1] at a2
  rw [g2] at b2
  have hcm:c ∈ cs:=List.mem_of_getElem? hcx
  obtain ⟨h0,h1⟩:=hr c hcm
  obtain ⟨n,hn⟩:∃ n:Nat,c.1 = (n:Int):=⟨c.1.toNat,by omega⟩
  obtain ⟨ds,hia,cw,rfl,hcw⟩:=hC.2.2.2 n (by omega)
  obtain ⟨e,e1,e2⟩:=a2p hcw ((p.texts.length:Nat):Int) (IntKind.wrap .i64 (r.dep + c.2)) S
  have hcb:a14 p k c = decide (e = 0):=by
   unfold a14
   rw [hn,Int.toNat_natCast,←hk]
   exact decide_eq_decide.2 e2.symm
  rw [p9.F0_e,hd,List.all_cons,hcb]
  refine (br hl1).trans ?_
  refine (bt (O4 (by omega))).trans ?_
  refine (rdI hX (j:=0) (k:=1) rfl).trans ?_
  refine (br a1).trans ?_
  refine (br a2).trans ?_
  rw [hn]
  refine (br hia).trans ?_
  refine (br (show ld false 1 S (.ip [cw]) = some cw from rfl)).trans ?_
  refine (rdI hX (j:=0) (k:=0) rfl).trans ?_
  refine (br hT.1).trans ?_
  refine (rdM hX (k:=9) rfl).trans ?_
  refine (br b1).trans ?_
  refine (br b2).trans ?_
  refine (br (aI _)).trans ?_
  refine (br (aI _)).trans ?_
  refine (cr e1).trans ?_
  refine (it rfl).trans ?_
  refine (br (aI _)).trans ?_
  by_cases he:e = 0
  ·rw [O4 he,Bool.true_and]
   refine (bf rfl).trans ?_
   rw [w1]
   exact ih (i + 1) (by omega)
  ·rw [O0 he]
   exact bt rfl
theorem refCodeX_spec (hX:S[X]? = some (.cells 0 (xc tx cd sx bl r) 0)) (hT:TxV p.texts tx) (hC:CdV p.codes cd) {o:OpA} {lv:AV} (hl:W4 o.l lv) (hll:o.l.length ≤ 1050000) (hr:∀ c ∈ P7 o,0 ≤ c.1∧c.1 < ((p.codes.length:Nat):Int)) {k:Bk} (hk:r.dep = k.depth) :
  O1 ap 41 [.mp X 0 0, .agg (oc o lv)] S = some (.ret (.bool (!(P7 o).all (a14 p k))),S):=by
 obtain ⟨T,hT'⟩:∃ T,T = S ++ [Ob.cells 0 (oc o lv) 0]:=⟨_,rfl⟩
 have hX1:T[X]? = some (.cells 0 (xc tx cd sx bl r) 0):=by rw [hT']; exact P8 hX
 have hTn:T[S.length]? = some (.cells 0 (oc o lv) 0):=by rw [hT']; exact P6
 have kT:O5 S.length S T:=by rw [hT']; exact O5.app (Nat.le_refl _)
 have hall:(AV.cells (.agg (oc o lv))).all AV.isCell = true:=by
  show (oc o lv).all AV.isCell = true
  simp only [oc,List.all_cons,List.all_nil,hl.2.1,Bool.and_true]
  rfl
 have hc:AV.cells (.agg (oc o lv)) = oc o lv:=rfl
 have r5:ld true 5 T (.mp S.length 0 0) = some (.agg (oc o lv)):=Z7 hTn rfl
 have hcl:=a0S hll
 obtain ⟨x,y,S',e1,e2,e3,ex,e4⟩:=a1W hl hll T
 have hX2:S'[X]? = some (.cells 0 (xc tx cd sx bl r) 0):=by rw [e4]; exact P8 hX1
 rw [p9.call]
 refine O7 (st':=S') ?_ rfl rfl (kT.trans (by rw [e4]; exact O5.app (by rw [hT']; simp)))
 rw [p9.b_eq,if_pos hall,hc,←hT']
 refine (br r5).trans ?_
 refine (cr e1).trans ?_
 refine (br (x0 _ _)).trans ?_
 refine (br (x1 _ _ _)).trans ?_
 exact refCode_loop hX2 hT hC e2 e3 hcl hr hk (P7 o).length 0 (by omega)
end
end Go.Proofs.YtcgepgahgihojaaGreatDoor
namespace Go.Proofs.YtcgepgahgihojaaGreatDoor
open Go.St Go.Lib
set_option linter.unusedVariables false
set_option linter.unusedSimpArgs false
theorem a0N {p:PrA} {i:Nat} {o:OpA} {k:Bk} {l:List Int} {ar:List Ar} (h:opE p i o k l ar = 0):Y6 p i o = true∧(P7 o).all (a14 p k) = true∧Q1 p k l i o = true∧a15 k p ar o = true∧a1w k o = false∧¬ (o.k = 9∧8 ≤ k.inn.loops):=by
 unfold opE at h
 rcases Q4 (Y6 p i o) with h1 | h1
 ·rw [if_pos h1] at h; cases h
 rw [if_neg (by rw [h1]; simp)] at h
 rcases Q4 ((P7 o).all (a14 p k)) with h2 | h2
 ·rw [if_pos h2] at h; cases h
 rw [if_neg (by rw [h2]; simp)] at h
 rcases Q4 (Q1 p k l i o) with h3 | h3
 ·rw [if_pos h3] at h; cases h
 rw [if_neg (by rw [h3]; simp)] at h
 rcases Q4 (a15 k p ar o) with h4 | h4
 ·rw [if_pos h4] at h; cases h
 rw [if_neg (by rw [h4]; simp)] at h
 rcases (Q4 (a1w k o)).symm with h5 | h5
 ·rw [if_pos h5] at h; cases h
 rw [if_neg (by rw [h5]; simp)] at h
 by_cases h6:o.k = 9∧8 ≤ k.inn.loops
 ·rw [if_pos h6] at h; cases h
 exact ⟨h1,h2,h3,h4,h5,h6⟩
def a3V (ar:List Ar) (j:Nat):Ar:=ar.getD j default
theorem a2Q {ar:List Ar} {x j:Nat} {a:Ar} (hx:x < ar.length):a3V (ar.set x a) j = if j = x then a else a3V ar j:=by
 unfold a3V
 rw [List.getD_eq_getElem?_getD,List.getD_eq_getElem?_getD]
 by_cases h:j = x
 ·subst h
  rw [if_pos rfl,List.getElem?_set_self hx]
  rfl
 ·rw [if_neg h,List.getElem?_set_ne (Ne.symm h)]
def Free (num:Int) (ar:List Ar):List (Int × Int)→Prop
 | []=>True
 | x :: r=>num < x.1∧0 ≤ x.1∧x.1 < ((ar.length:Nat):Int)∧(a3V ar x.1.toNat).owned = false∧(∀ y ∈ r,y.1 ≠ x.1)∧Free num ar r
theorem Free.set {num:Int} {ar:List Ar} {x:Nat} {a:Ar} (hx:x < ar.length):∀ {l:List (Int × Int)},Free num ar l→(∀ y ∈ l,y.1 ≠ (x:Int))→Free num (ar.set x a) l:=by
 intro l
 induction l with
 | nil=>intro _ _; trivial
 | cons y r ih=>
  rintro ⟨h1,h2,h3,h4,h5,h6⟩ hne
  refine ⟨h1,h2,by rw [List.length_set]; exact h3,?_,h5,ih h6 fun z hz=>hne z (by simp [hz])⟩
  have:=hne y (by simp)
  rw [a2Q hx,if_neg (by omega)]
  exact h4
theorem own_free {k:Bk} {p:PrA} {ar:List Ar} {o:OpA} (h:a15 k p ar o = true) (hn:0 ≤ k.num) (har:ar.length = p.blocks.length):Free k.num ar (O3 o):=by
 have hl:=W9 o
 have hf:=a2W (O3 o) 0 h
 unfold a15 at h
 match hb:O3 o with
 | []=>trivial
 | [x]=>
  rw [hb] at hf
  obtain ⟨a,b,c⟩:=hf x (by simp)
  exact ⟨a,by omega,by omega,c,by simp,trivial⟩
 | [x,y]=>
  rw [hb] at hf h
  obtain ⟨a,b,c⟩:=hf x (by simp)
  obtain ⟨a',b',c'⟩:=hf y (by simp)
  have hne:y.1 ≠ x.1:=by
   simp only [a27,Bool.and_eq_true,Bool.and_true] at h
   have h2:=h.2
   unfold ownB at h2
   simp only [Bool.not_eq_true',Bool.or_eq_false_iff,Bool.and_eq_false_iff,decide_eq_false_iff_not] at h2
   rcases h2.2.2.2 with h3 | h3
   ·omega
   ·exact fun e=>h3 e.symm
  exact ⟨a,by omega,by omega,c,by simpa using hne,a',by omega,by omega,c',by simp,trivial⟩
 | x :: y :: z :: r=>rw [hb] at hl; simp at hl
def Le (i:Int) (a b:List Ar):Prop:=b.length = a.length∧∀ j:Nat,((a3V a j).owned = true∨(j:Int) ≤ i)→a3V b j = a3V a j
theorem Le.refl (i:Int) (a:List Ar):Le i a a:=⟨rfl,fun _ _=>rfl⟩
theorem Le.trans {i:Int} {a b c:List Ar} (h:Le i a b) (k:Le i b c):Le i a c:=⟨k.1.trans h.1,fun j hj=>by
 have e:=h.2 j hj
 rw [←e]
 refine k.2 j ?_
 rcases hj with hj | hj
 ·rw [e]; exact .inl hj
 ·exact .inr hj⟩
theorem set_le {num:Int} {ar:List Ar} {x:Nat} {a:Ar} (hx:x < ar.length) (ho:(a3V ar x).owned = false) (hn:num < (x:Int)):Le num ar (ar.set x a):=⟨by simp,fun j hj=>by
 rw [a2Q hx]
 by_cases h:j = x
 ·subst h
  rcases hj with hj | hj
  ·rw [ho] at hj; cases hj
  ·omega
 ·rw [if_neg h]⟩
theorem arGo_le {k:Bk} {l:List Int} {o:OpA} {num:Int}:∀ {bs:List (Int × Int)} {ar:List Ar},Free num ar bs→Le num ar (a2u k l o ar bs):=by
 intro bs
 induction bs with
 | nil=>intro ar _; exact Le.refl _ _
 | cons x r ih=>
  rintro ar ⟨h1,h2,h3,h4,h5,h6⟩
  have hx:x.1.toNat < ar.length:=by omega
  simp only [a2u]
  exact (set_le hx h4 (by omega)).trans (ih (h6.set hx fun y hy=>by have:=h5 y hy; omega))
def a2c:List Int→Int
 | []=>0
 | x :: r=>x + a2c r
theorem a1y (a b:List Int):a2c (a ++ b) = a2c a + a2c b:=by
 induction a with
 | nil=>simp [a2c]
 | cons x r ih=>simp only [List.cons_append,a2c,ih]; omega
theorem sumI_pos:∀ {l:List Int},(∀ x ∈ l,0 ≤ x)→0 ≤ a2c l:=by
 intro l
 induction l with
 | nil=>intro _; simp [a2c]
 | cons x r ih=>
  intro h
  have:=ih fun y hy=>h y (by simp [hy])
  have:=h x (by simp)
  simp only [a2c]
  omega
theorem last_eq {l:List Int} (hl:0 < l.length):l = l.dropLast ++ [Q2 l]:=by
 have hne:l ≠ []:=by intro h; rw [h] at hl; simp at hl
 have e:Q2 l = l.getLast hne:=by
  unfold Q2
  rw [List.getD_eq_getElem?_getD,←List.getLast?_eq_getElem?,List.getLast?_eq_some_getLast hne]
  rfl
 rw [e]
 exact (List.dropLast_concat_getLast hne).symm
theorem Z3 {l:List Int} (hl:0 < l.length) (x:Int):setLast l x = l.dropLast ++ [x]:=by
 have e:=last_eq hl
 unfold setLast
 conv=>lhs; rw [e]
 rw [List.set_append_right _ _ (by simp)]
 simp
structure Dep (d0:Int) (k:Bk) (l:List Int):Prop where
 sum:k.depth = d0 + a2c l
 pos:∀ x ∈ l,0 ≤ x
 d0:0 ≤ d0
 top:k.depth ≤ 64
 len:0 < l.length
theorem a1F {x:Int} (h0:0 ≤ x) (h:x ≤ 1000):wr x = x:=wrap64 h0 (by omega)
theorem Dep.ge {d0:Int} {k:Bk} {l:List Int} (h:Dep d0 k l):d0 ≤ k.depth:=by
 have:=sumI_pos h.pos
 have:=h.sum
 omega
theorem Dep.done {d0:Int} {k:Bk} {l:List Int} (h:Dep d0 k l) {p:PrA} {i:Nat} {o:OpA} {ar:List Ar} (hE:opE p i o k l ar = 0):Dep d0 (Q6 p i o k l).1 (Q6 p i o k l).2:=by
 obtain ⟨e1,e2,e3,e4,e5,e6⟩:=a0N hE
 obtain ⟨h1,h2,h3,h4,h5⟩:=h
 have hl:=last_eq h5
 have hsum:a2c l = a2c l.dropLast + Q2 l:=by
  have e:=congrArg a2c hl
  rw [a1y] at e
  simpa [a2c] using e
 have hpd:∀ x ∈ l.dropLast,0 ≤ x:=fun x hx=>h2 x ((List.dropLast_sublist l).subset hx)
 have hlast:0 ≤ Q2 l:=h2 _ (by
  have e:Q2 l ∈ l.dropLast ++ [Q2 l]:=by simp
  rwa [←hl] at e)
 have hspd:=sumI_pos hpd
 unfold Q6
 by_cases k3:o.k = 3
 ·rw [if_pos k3]
  exact ⟨by rw [a1y]; simpa [a2c] using h1,fun x hx=>by
   rcases List.mem_append.1 hx with hx | hx
   ·exact h2 x hx
   ·simp at hx; omega,h3,h4,by simp⟩
 rw [if_neg k3]
 by_cases k4:o.k = 4∨o.k = 5
 ·rw [if_pos k4]; exact ⟨h1,h2,h3,h4,h5⟩
 rw [if_neg k4]
 by_cases k6:o.k = 6
 ·rw [if_pos k6]
  obtain ⟨s1,s2⟩:=Y2 e3 k6
  exact ⟨by show k.depth = d0 + a2c l.dropLast; omega,hpd,h3,h4,by simp; omega⟩
 rw [if_neg k6]
 by_cases k11:o.k = 11
 ·rw [if_pos k11]
  unfold a1w at e5
  rw [if_pos k11,decide_eq_false_iff_not] at e5
  have w:wr (k.depth + 1) = k.depth + 1:=a1F (by omega) (by omega)
  have w2:wr (Q2 l + 1) = Q2 l + 1:=a1F (by omega) (by omega)
  rw [show IntKind.wrap .i64 (k.depth + 1) = k.depth + 1 from w] at e5
  refine ⟨?_,fun x hx=>?_,h3,?_,by rw [Z3 h5]; simp⟩
  ·show wr (k.depth + 1) = d0 + a2c (setLast l (wr (Q2 l + 1)))
   rw [w,w2,Z3 h5,a1y]
   simp only [a2c]
   omega
  ·rw [Z3 h5,w2] at hx
   rcases List.mem_append.1 hx with hx | hx
   ·exact hpd x hx
   ·simp at hx; omega
  ·show wr (k.depth + 1) ≤ 64
   omega
 rw [if_neg k11]
 by_cases k12:o.k = 12
 ·rw [if_pos k12]
  have ha:o.a ≤ Q2 l:=by
   unfold Q1 at e3
   rw [if_neg k3,if_neg (by omega),if_neg k4,if_neg k6,if_pos k12] at e3
   exact of_decide_eq_true e3
  have ha1:1 ≤ o.a:=by
   unfold Y6 at e1
   rw [Bool.and_eq_true,Bool.and_eq_true] at e1
   have:=e1.2.2
   unfold a00 at this
   rw [if_neg (by omega),if_neg (by omega),if_neg (by omega),if_neg (by omega),if_neg (by omega),if_neg (by omega),if_pos k12,Bool.and_eq_true] at this
   exact of_decide_eq_true this.2
  have w:wr (k.depth - o.a) = k.depth - o.a:=a1F (by omega) (by omega)
  have w2:wr (Q2 l - o.a) = Q2 l - o.a:=a1F (by omega) (by omega)
  refine ⟨?_,fun x hx=>?_,h3,?_,by rw [Z3 h5]; simp⟩
  ·show wr (k.depth - o.a) = d0 + a2c (setLast l (wr (Q2 l - o.a)))
   rw [w,w2,Z3 h5,a1y]
   simp only [a2c]
   omega
  ·rw [Z3 h5,w2] at hx
   rcases List.mem_append.1 hx with hx | hx
   ·exact hpd x hx
   ·simp at hx; omega
  ·show wr (k.depth - o.a) ≤ 64
   omega
 rw [if_neg k12]
 exact ⟨h1,h2,h3,h4,h5⟩
theorem more_pos {o:OpA} {x:Int × Int} (h:x ∈ O3 o):0 ≤ x.2∧x.2 ≤ ((o.l.length:Nat):Int) + 2:=by
 unfold O3 at h
 split at h
 ·simp only [a1r,List.mem_map] at h
  obtain ⟨y,_,rfl⟩:=h
  simp only
  omega
 ·split at h
  ·simp at h; rw [h]; simp only; omega
  ·split at h
   ·simp at h; rw [h]; simp only; omega
   ·simp at h
theorem take_depth {d0:Int} {k:Bk} {l:List Int} (h:Dep d0 k l) {p:PrA} {i:Nat} {o:OpA} {ar:List Ar} (hE:opE p i o k l ar = 0) {x:Int × Int} (hx:x ∈ O3 o):wr (k.depth + x.2) = k.depth + x.2∧0 ≤ x.2∧k.depth + x.2 ≤ 64:=by
 obtain ⟨e1,e2,e3,e4,e5,e6⟩:=a0N hE
 obtain ⟨m1,m2⟩:=more_pos hx
 have hll:o.l.length ≤ 64:=by
  unfold Y6 at e1
  simp only [Bool.and_eq_true,Bool.not_eq_true',Bool.or_eq_false_iff,decide_eq_false_iff_not] at e1
  omega
 have hg:=h.ge
 have ht:=h.top
 have h0:=h.d0
 have w:wr (k.depth + x.2) = k.depth + x.2:=a1F (by omega) (by omega)
 have hk:¬ o.k = 11:=by
  intro hk
  unfold O3 at hx
  rw [if_neg (by omega),if_neg (by omega),if_neg (by omega)] at hx
  simp at hx
 unfold a1w at e5
 rw [if_neg hk,List.any_eq_false] at e5
 have:=e5 x hx
 simp only [decide_eq_true_eq] at this
 rw [show IntKind.wrap .i64 (k.depth + x.2) = k.depth + x.2 from w] at this
 exact ⟨w,m1,by omega⟩
end Go.Proofs.YtcgepgahgihojaaGreatDoor
namespace Go.Proofs.YtcgepgahgihojaaGreatDoor
open Go.St Go.Lib
set_option linter.unusedVariables false
set_option linter.unusedSimpArgs false
def a0y (j:Nat) (a:Ar):List AV:=[.int .i64 a.depth, .int .i64 a.nest, .int .i64 a.loops, .bool (a.owned || decide (j = 0)), .bool a.loop]
def Q8:Nat→List Ar→List AV
 | _,[]=>[]
 | j,a :: r=>a0y j a ++ Q8 (j + 1) r
theorem rc_len:∀ (l:List Ar) (j:Nat),(Q8 j l).length = l.length * 5:=by
 intro l
 induction l with
 | nil=>intro j; rfl
 | cons a r ih=>intro j; simp only [Q8,List.length_append,ih,List.length_cons]; simp only [a0y,List.length_cons,List.length_nil]; omega
theorem rc_cell:∀ (l:List Ar) (j i c:Nat) (x:AV),i < l.length→c < 5→(a0y (j + i) (l.getD i default))[c]? = some x→(Q8 j l)[i * 5 + c]? = some x:=by
 intro l
 induction l with
 | nil=>intro j i c x h; simp at h
 | cons a r ih=>
  intro j i c x hi hc hx
  simp only [Q8]
  cases i with
  | zero=>
   rw [Nat.zero_mul,Nat.zero_add,List.getElem?_append_left (by simp [a0y]; omega)]
   simpa using hx
  | succ i=>
   have hl:(a0y j a).length = 5:=rfl
   rw [List.getElem?_append_right (by rw [hl]; omega),hl,show (i + 1) * 5 + c - 5 = i * 5 + c by omega]
   refine ih (j + 1) i c x (by simpa using hi) hc ?_
   rw [show j + 1 + i = j + (i + 1) by omega]
   simpa using hx
theorem rc_set:∀ (l:List Ar) (j w:Nat) (a:Ar),w < l.length→splice (Q8 j l) (w * 5) (a0y (j + w) a) = Q8 j (l.set w a):=by
 intro l
 induction l with
 | nil=>intro j w a h; simp at h
 | cons b r ih=>
  intro j w a hw
  have hl:∀ q c,(a0y q c).length = 5:=fun _ _=>rfl
  cases w with
  | zero=>
   simp only [splice,Q8,List.set_cons_zero,Nat.zero_mul,List.take_zero,List.nil_append,Nat.zero_add,hl,Nat.add_zero]
   rw [←hl j b,List.drop_left]
  | succ w=>
   have:=ih (j + 1) w a (by simpa using hw)
   simp only [Q8,List.set_cons_succ]
   rw [←this]
   unfold splice
   rw [hl,show (w + 1) * 5 = 5 + w * 5 by omega,show j + 1 + w = j + (w + 1) by omega,show 5 + w * 5 + 5 = 5 + (w * 5 + 5) by omega]
   have t:(a0y j b ++ Q8 (j + 1) r).take (5 + w * 5) = a0y j b ++ (Q8 (j + 1) r).take (w * 5):=by
    rw [←hl j b,List.take_length_add_append]
   have d:(a0y j b ++ Q8 (j + 1) r).drop (5 + (w * 5 + 5)) = (Q8 (j + 1) r).drop (w * 5 + 5):=by
    rw [←hl j b,List.drop_length_add_append]
   rw [t,d,List.append_assoc,hl]
def strs (l:List ByteArray):List AV:=l.map .str
def Ref (v:AV) (j:Nat):Prop:=∃ g off len es,v = .ms j g off len es
structure Frm (M:Nat→Prop) (S S':Sto):Prop where
 len:S.length ≤ S'.length
 at_:∀ (j:Nat) (o:Ob),S[j]? = some o→¬ M j→S'[j]? = some o
theorem Frm.refl (M:Nat→Prop) (S:Sto):Frm M S S:=⟨Nat.le_refl _,fun _ _ h _=>h⟩
theorem Frm.trans {M:Nat→Prop} {S T U:Sto} (h:Frm M S T) (k:Frm M T U):Frm M S U:=⟨Nat.le_trans h.len k.len,fun j o a b=>k.at_ j o (h.at_ j o a b) b⟩
theorem Frm.weak {M M':Nat→Prop} {S T:Sto} (h:Frm M S T) (k:∀ j,M j→M' j):Frm M' S T:=⟨h.len,fun j o a b=>h.at_ j o a (fun c=>b (k j c))⟩
theorem Frm.app {M:Nat→Prop} {S ex:Sto}:Frm M S (S ++ ex):=⟨by simp,fun j o a _=>P8 a⟩
theorem Frm.set {M:Nat→Prop} {S:Sto} {x:Nat} {o:Ob} (h:M x):Frm M S (S.set x o):=⟨by simp,fun j q a b=>by
 rw [List.getElem?_set_ne (fun e=>b (by rw [←e]; exact h))]; exact a⟩
structure RN (X A L gl:Nat) (tx cd sx bl:AV) (r:Rx) (l:List Int) (ns:List ByteArray) (ar:List Ar) (S:Sto):Prop where
 hX:S[X]? = some (.cells 0 (xc tx cd sx bl r) 0)
 hA:S[A]? = some (.cells 0 (Q8 0 ar) 0)
 hI:r.inn = .ms A 0 0 ar.length 5
 hlv:r.lv = .ms L gl 0 l.length 1
 hL:∃ junk,S[L]? = some (.cells gl (O6 l ++ junk) 0)
 hN:(ns = []∧r.nv = .nils)∨∃ N g junk,r.nv = .ms N g 0 ns.length 1∧S[N]? = some (.cells g (strs ns ++ junk) 0)∧N ≠ X∧N ≠ A∧N ≠ L
 n1:X ≠ A
 n2:L ≠ X
 n3:L ≠ A
def shL (o:OpA) (l:List Int):List Int:=if o.k = 3 then l ++ [0] else if o.k = 6 then l.dropLast else if o.k = 12 then setLast l (wr (Q2 l - o.a)) else l
def shD (o:OpA) (d:Int):Int:=if o.k = 12 then wr (d - o.a) else d
def shN (p:PrA) (o:OpA) (ns:List ByteArray):List ByteArray:=if o.k = 3 then ns ++ [⟨#[]⟩] else if o.k = 4∨o.k = 5 then ns.set (ns.length - 1) (p.texts.getD o.a.toNat ⟨#[]⟩) else if o.k = 6 then ns.dropLast else ns
structure Iv (d0:Int) (os:List OpA) (i:Nat) (k:Bk) (l:List Int) (ns:List ByteArray) (ar:List Ar):Prop where
 dep:Dep d0 k l
 nest0:0 ≤ k.inn.nest
 nest1:k.inn.nest + ((l.length:Nat):Int) ≤ 64
 loops0:0 ≤ k.inn.loops
 loops1:k.inn.loops ≤ 8
 op1:k.opened < ((i:Nat):Int)
 op2:(k.opened = ((i:Nat):Int) - 1∧i ≠ 0) ↔ (i ≠ 0∧((os.getD (i - 1) default).k = 3∨(os.getD (i - 1) default).k = 4∨(os.getD (i - 1) default).k = 5))
 len:ns.length + 1 = l.length
 last:k.opened = ((i:Nat):Int) - 1→i ≠ 0→0 < ns.length∧ns.getD (ns.length - 1) ⟨#[]⟩ = k.name
 inn:a3V ar k.num.toNat = k.inn
 num0:0 ≤ k.num
 num1:k.num < ((ar.length:Nat):Int)
theorem app_ms {S:Sto} {N g n by_:Nat} {c junk:List AV} {x:AV} {b:Bool} (h:S[N]? = some (.cells g (c ++ junk) 0)) (hc:c.length = n) (hr:room by_ (n + 1) = true) :
  X6 b false 1 by_ (.ms N g 0 n 1) (.is [x] 1 .full) S = some (.ms N (g + 1) 0 (n + 1) 1,S.set N (.cells (g + 1) (c ++ [x]) 0)):=by
 have htail:T6 false 1 S (.is [x] 1 .full) = some ([x],1):=rfl
 have hle:0 + n ≤ (c ++ junk).length:=by rw [List.length_append]; omega
 have ht:(c ++ junk).take n = c:=by rw [←hc,List.take_left]
 simp only [X6,htail,Option.bind_some,true_and,hr,if_true,h,hle,and_self,List.drop_zero,Nat.mul_one,ht]
theorem cut_ms {N g n m:Nat} (h:m ≤ n):a06 1 (.ms N g 0 n 1) none (some (.int .i64 ((m:Nat):Int))) = some (.ms N g 0 m 1):=by
 have hb:bnd n n (some (.int .i64 ((m:Nat):Int))) = some m:=by
  unfold bnd
  simp only
  rw [if_pos (by omega)]
  simp
 simp only [a06,hb,Option.bind_some]
 simp only [bnd,Option.bind_some,if_true,Nat.zero_mul,Nat.add_zero,Nat.sub_zero]
theorem ia_ms {N g n i:Nat} (h:i < n):ia 1 (.ms N g 0 n 1) (.int .i64 ((i:Nat):Int)) = some (.mp N g i):=by
 simp only [ia,if_true,P9 h,Option.bind_some,Nat.zero_add,Nat.mul_one]
theorem ia_ar {A n i:Nat} (h:i < n):ia 5 (.ms A 0 0 n 5) (.int .i64 ((i:Nat):Int)) = some (.mp A 0 (i * 5)):=by
 simp only [ia,if_true,P9 h,Option.bind_some,Nat.zero_add]
theorem last_at {l:List Int} (h:0 < l.length) (junk:List AV):(O6 l ++ junk)[l.length - 1]? = some (.int .i64 (Q2 l)):=by
 have hl:(O6 l).length = l.length:=by simp [O6]
 rw [List.getElem?_append_left (by omega)]
 unfold O6 Q2
 rw [List.getElem?_map,List.getD_eq_getElem?_getD,List.getElem?_eq_getElem (show l.length - 1 < l.length by omega)]
 rfl
theorem str_at {l:List ByteArray} {i:Nat} (h:i < l.length) (junk:List AV):(strs l ++ junk)[i]? = some (.str (l.getD i ⟨#[]⟩)):=by
 have hl:(strs l).length = l.length:=by simp [strs]
 rw [List.getElem?_append_left (by omega)]
 unfold strs
 rw [List.getElem?_map,List.getD_eq_getElem?_getD,List.getElem?_eq_getElem h]
 rfl
theorem a16 {x:Int} (h0:-1000000000 ≤ x) (h:x ≤ 1000000000):wr x = x:=wrap_id ⟨by omega,by omega⟩
theorem wordB_ne {s:ByteArray} {q:Nat} (h:a0q s q = true):s ≠ ⟨#[]⟩:=fun e=>by
 subst e
 revert h
 unfold a0q
 simp [ByteArray.size]
theorem sLess_nil {s:ByteArray} (h:s ≠ ⟨#[]⟩):Z6 ⟨#[]⟩ s = true:=by
 unfold Z6
 cases hs:s.data.toList with
 | nil=>
  exfalso
  apply h
  have:s.data = #[]:=by
   have:=congrArg List.toArray hs
   simpa using this
  cases s
  simp only at this
  rw [this]
 | cons a r=>rfl
section
variable {p:PrA} {X A L gl:Nat} {tx cd sx bl:AV} {r:Rx} {l:List Int} {ns:List ByteArray} {ar:List Ar} {S:Sto} {k:Bk} {d0:Int} {os:List OpA} {i:Nat}
theorem RN.nlen (h:RN X A L gl tx cd sx bl r l ns ar S):P3 r.nv = some ns.length:=by
 rcases h.hN with ⟨h1,h2⟩ | ⟨N,g,junk,h1,_⟩
 ·rw [h1,h2]; rfl
 ·rw [h1]; rfl
theorem RN.app (h:RN X A L gl tx cd sx bl r l ns ar S) (ex:Sto):RN X A L gl tx cd sx bl r l ns ar (S ++ ex):=by
 obtain ⟨j1,hL⟩:=h.hL
 refine ⟨P8 h.hX,P8 h.hA,h.hI,h.hlv,⟨j1,P8 hL⟩,?_,h.n1,h.n2,h.n3⟩
 rcases h.hN with h | ⟨N,g,junk,h1,h2,h3⟩
 ·exact .inl h
 ·exact .inr ⟨N,g,junk,h1,P8 h2,h3⟩
def Ms (X:Nat) (r:Rx) (j:Nat):Prop:=j = X∨Ref r.lv j∨Ref r.nv j
def Shaped (p:PrA) (X A L:Nat) (tx cd sx bl:AV) (r:Rx) (l:List Int) (ns:List ByteArray) (ar:List Ar) (S:Sto) (k:Bk) (i:Nat) (o:OpA) (x:Option Res):Prop:=
 ∃ S' r' gl',x = some ⟨.ret (.bool (!Q1 p k l i o)),none,S'⟩∧Frm (Ms X r) S S'∧(∀ j,Ref r'.nv j→Ref r.nv j∨S.length ≤ j)∧r' = { r with dep:=r'.dep,lv:=r'.lv,nv:=r'.nv } ∧
  (Q1 p k l i o = true→r'.dep = shD o r.dep∧RN X A L gl' tx cd sx bl r' (shL o l) (shN p o ns) ar S') ∧
  (Q1 p k l i o = false→RN X A L gl' tx cd sx bl r' l ns ar S')
theorem Shaped.via {x y:Option Res} {o:OpA} (h:x = y) (k':Shaped p X A L tx cd sx bl r l ns ar S k i o y):Shaped p X A L tx cd sx bl r l ns ar S k i o x:=by rw [h]; exact k'
theorem a3C (hv:Iv d0 os i k l ns ar):IntKind.wrap .i64 (k.inn.nest + ((ns.length:Nat):Int)) = X9 k l∧X9 k l = k.inn.nest + ((l.length:Nat):Int) - 1:=by
 have h1:=hv.nest0; have h2:=hv.nest1; have h3:=hv.len
 have e:X9 k l = k.inn.nest + ((l.length:Nat):Int) - 1:=by
  unfold X9
  rw [a16 (x:=k.inn.nest + ((l.length:Nat):Int)) (by omega) (by omega),a16 (by omega) (by omega)]
 refine ⟨?_,e⟩
 rw [e]
 have:=a16 (x:=k.inn.nest + ((ns.length:Nat):Int)) (by omega) (by omega)
 rw [show IntKind.wrap .i64 (k.inn.nest + ((ns.length:Nat):Int)) = wr (k.inn.nest + ((ns.length:Nat):Int)) from rfl,this]
 omega
theorem shape_open (h:RN X A L gl tx cd sx bl r l ns ar S) (hv:Iv d0 os i k l ns ar) {o:OpA} {lv:AV} (h3:o.k = 3) {T:Sto} (hT:T = S ++ [Ob.cells 0 (oc o lv) 0]) :
  Shaped p X A L tx cd sx bl r l ns ar S k i o (bif (decide (63 < (IntKind.wrap .i64 ((X9 k l) + 1)))) then (some ⟨.ret (.bool true),none,T⟩) else ((O2 (.mp X 0 0)).bind fun v21=>(fa 11 1 v21).bind fun v22=>(ld false 1 T v22).bind fun v23=>(S8 false 1 1 (O9 (fun i=>some (i * 1,1)) [.str ⟨#[]⟩] [(0,(.str ⟨#[]⟩))]) T).bind fun x24=>(X6 true false 1 16 v23 x24.1 x24.2).bind fun x25=>(O2 (.mp X 0 0)).bind fun v26=>(fa 11 1 v26).bind fun v27=>(sto 1 x25.2 v27 x25.1).bind fun s28=>(O2 (.mp X 0 0)).bind fun v29=>(fa 10 1 v29).bind fun v30=>(ld false 1 s28 v30).bind fun v31=>(S8 false 1 1 (O9 (fun i=>some (i * 1,1)) [.int .i64 0] [(0,(.int .i64 0))]) s28).bind fun x32=>(X6 true false 1 8 v31 x32.1 x32.2).bind fun x33=>(O2 (.mp X 0 0)).bind fun v34=>(fa 10 1 v34).bind fun v35=>(sto 1 x33.2 v35 x33.1).bind fun s36=>some ⟨.ret (.bool false),none,s36⟩)):=by
 have hN0:RN X A L gl tx cd sx bl r l ns ar T:=by rw [hT]; exact h.app _
 have hT0:T.length = S.length + 1:=by rw [hT]; simp
 have hsA:Q1 p k l i o = decide (IntKind.wrap .i64 (X9 k l + 1) ≤ 63):=by unfold Q1; rw [if_pos h3]
 have hf0:Frm (Ms X r) S T:=by rw [hT]; exact Frm.app
 by_cases hc:63 < IntKind.wrap .i64 (X9 k l + 1)
 ·have e:Q1 p k l i o = false:=by rw [hsA,O0 (by omega)]
  refine ⟨T,r,gl,?_,hf0,fun j hj => .inl hj,rfl,fun h=>(by rw [e] at h; cases h),fun _=>hN0⟩
  rw [e]
  exact bt (O4 hc)
 have e:Q1 p k l i o = true:=by rw [hsA,O4 (by omega)]
 have hlv:=h.hlv
 have hn:=hv.nest1; have hn0:=hv.nest0; have hlen:=hv.len
 obtain ⟨jl,hL⟩:=hN0.hL
 obtain ⟨nv',U,happ,hUX,hUA,hUL,hUn,hfU,hrf⟩:∃ nv' U,X6 true false 1 16 r.nv (.is [.str ⟨#[]⟩] 1 .full) T = some (nv',U)∧U[X]? = T[X]?∧U[A]? = T[A]?∧U[L]? = T[L]?∧(∃ N g junk,nv' = .ms N g 0 (ns.length + 1) 1∧U[N]? = some (.cells g (strs (ns ++ [⟨#[]⟩]) ++ junk) 0)∧N ≠ X∧N ≠ A∧N ≠ L)∧Frm (Ms X r) T U∧(∀ j,Ref nv' j→Ref r.nv j∨S.length ≤ j):=by
  rcases hN0.hN with ⟨h1,h2⟩ | ⟨N,g,junk,h1,h2,h3,h4,h5⟩
  ·have hXl:=(List.getElem?_eq_some_iff.1 hN0.hX).1
   have hAl:=(List.getElem?_eq_some_iff.1 hN0.hA).1
   have hLl:=(List.getElem?_eq_some_iff.1 hL).1
   refine ⟨.ms T.length 0 0 1 1,T ++ [.cells 0 [.str ⟨#[]⟩] 0],by rw [h2]; rfl,List.getElem?_append_left hXl,List.getElem?_append_left hAl,List.getElem?_append_left hLl,⟨T.length,0,[],by rw [h1]; rfl,by rw [h1]; simp [strs],by omega,by omega,by omega⟩,Frm.app,fun j hj=>?_⟩
   obtain ⟨_,_,_,_,e⟩:=hj
   cases e
   exact .inr (by omega)
  ·have hNl:=(List.getElem?_eq_some_iff.1 h2).1
   have hr:room 16 (ns.length + 1) = true:=by simp [room]; omega
   have ha:=app_ms (b:=true) (by_:=16) (x := .str ⟨#[]⟩) h2 (by simp [strs]) hr
   refine ⟨_,_,by rw [h1]; exact ha,List.getElem?_set_ne h3,List.getElem?_set_ne h4,List.getElem?_set_ne h5,⟨N,g + 1,[],rfl,by rw [List.getElem?_set_self hNl]; simp [strs],h3,h4,h5⟩,Frm.set (.inr (.inr ⟨_,_,_,_,h1⟩)),fun j hj=>?_⟩
   obtain ⟨_,_,_,_,e⟩:=hj
   cases e
   exact .inl ⟨_,_,_,_,h1⟩
 have hX1:U[X]? = some (.cells 0 (xc tx cd sx bl r) 0):=hUX.trans hN0.hX
 have hXl:=(List.getElem?_eq_some_iff.1 hX1).1
 have hnc:nv'.isCell = true∧nv'.cells = [nv']:=by
  obtain ⟨N,g,junk,e,_⟩:=hUn
  rw [e]; exact ⟨rfl,rfl⟩
 obtain ⟨U1,hU1⟩:∃ U1,U1 = U.set X (.cells 0 ((xc tx cd sx bl r).set 11 nv') 0):=⟨_,rfl⟩
 have hX2:U1[X]? = some (.cells 0 (xc tx cd sx bl { r with nv:=nv' }) 0):=by rw [hU1,List.getElem?_set_self hXl]; rfl
 have hL1:U1[L]? = some (.cells gl (O6 l ++ jl) 0):=by rw [hU1,List.getElem?_set_ne h.n2.symm,hUL]; exact hL
 have hLl:=(List.getElem?_eq_some_iff.1 hL1).1
 have hr8:room 8 (l.length + 1) = true:=by simp [room]; omega
 have ha8:=app_ms (b:=true) (by_:=8) (x := .int .i64 0) hL1 (by simp [O6]:(O6 l).length = l.length) hr8
 obtain ⟨U2,hU2⟩:∃ U2,U2 = U1.set L (.cells (gl + 1) (O6 l ++ [.int .i64 0]) 0):=⟨_,rfl⟩
 rw [←hU2] at ha8
 have hX3:U2[X]? = some (.cells 0 (xc tx cd sx bl { r with nv:=nv' }) 0):=by rw [hU2,List.getElem?_set_ne h.n2]; exact hX2
 have hXl3:=(List.getElem?_eq_some_iff.1 hX3).1
 obtain ⟨U3,hU3⟩:∃ U3,U3 = U2.set X (.cells 0 ((xc tx cd sx bl { r with nv:=nv' }).set 10 (.ms L (gl + 1) 0 (l.length + 1) 1)) 0):=⟨_,rfl⟩
 have hM:Ms X r L := .inr (.inl ⟨_,_,_,_,hlv⟩)
 have f1:Frm (Ms X r) U U1:=by rw [hU1]; exact Frm.set (.inl rfl)
 have f2:Frm (Ms X r) U1 U2:=by rw [hU2]; exact Frm.set hM
 have f3:Frm (Ms X r) U2 U3:=by rw [hU3]; exact Frm.set (.inl rfl)
 refine ⟨U3,{ r with lv := .ms L (gl + 1) 0 (l.length + 1) 1,nv:=nv' },gl + 1,?_,hf0.trans (hfU.trans (f1.trans (f2.trans f3))),hrf,rfl,fun _=>⟨?_,?_⟩,fun h=>by rw [e] at h; cases h⟩
 ·rw [e]
  refine (bf (O0 hc)).trans ?_
  refine (rdM hN0.hX (k:=11) rfl).trans ?_
  refine (br (show (S8 false 1 1 (O9 (fun i=>some (i * 1,1)) [.str ⟨#[]⟩] [(0,(.str ⟨#[]⟩))]) T) = some (.is [.str ⟨#[]⟩] 1 .full,T) from rfl)).trans ?_
  refine (br happ).trans ?_
  refine (wrM hX1 (by show 11 < 12; omega) hnc.1 hnc.2).trans ?_
  rw [←hU1]
  refine (rdM hX2 (k:=10) rfl).trans ?_
  refine (br (show (S8 false 1 1 (O9 (fun i=>some (i * 1,1)) [.int .i64 0] [(0,(.int .i64 0))]) U1) = some (.is [.int .i64 0] 1 .full,U1) from rfl)).trans ?_
  rw [hlv]
  refine (br ha8).trans ?_
  refine (wrM hX3 (by show 10 < 12; omega) rfl rfl).trans ?_
  rw [←hU3]
  rfl
 ·unfold shD; rw [if_neg (by omega)]
 ·have e1:shL o l = l ++ [0]:=by unfold shL; rw [if_pos h3]
  have e2:shN p o ns = ns ++ [⟨#[]⟩]:=by unfold shN; rw [if_pos h3]
  rw [e1,e2]
  obtain ⟨N,g,junk,q1,q2,q3,q4,q5⟩:=hUn
  refine ⟨by rw [hU3,List.getElem?_set_self hXl3]; rfl,?_,h.hI,by simp,⟨[],?_⟩, .inr ⟨N,g,junk,by simp [q1],?_,q3,q4,q5⟩,h.n1,h.n2,h.n3⟩
  ·rw [hU3,List.getElem?_set_ne h.n1,hU2,List.getElem?_set_ne h.n3,hU1,List.getElem?_set_ne h.n1,hUA]; exact hN0.hA
  ·rw [hU3,List.getElem?_set_ne h.n2.symm,hU2,List.getElem?_set_self hLl]; simp [O6]
  ·rw [hU3,List.getElem?_set_ne q3.symm,hU2,List.getElem?_set_ne q5.symm,hU1,List.getElem?_set_ne q3.symm]; exact q2
theorem Z8 (h:RN X A L gl tx cd sx bl r l ns ar S) {o:OpA} {b:Bool} (hb:Q1 p k l i o = !b) (hd:Q1 p k l i o = true→shD o r.dep = r.dep∧shL o l = l∧shN p o ns = ns) {T:Sto} (ex:Sto) (hT:T = S ++ ex):Shaped p X A L tx cd sx bl r l ns ar S k i o (some ⟨.ret (.bool b),none,T⟩):=by
 subst hT
 refine ⟨S ++ ex,r,gl,by rw [hb,Bool.not_not],Frm.app,fun j hj => .inl hj,rfl,fun e=>?_,fun _=>h.app ex⟩
 obtain ⟨e1,e2,e3⟩:=hd e
 rw [e1,e2,e3]
 exact ⟨rfl,h.app ex⟩
open Classical in
theorem shape_static (h:RN X A L gl tx cd sx bl r l ns ar S) (hv:Iv d0 os i k l ns ar) (hS:FoM p.statics sx) (hz:p.statics.sz ≤ 1050000) (hm:∀ row n m,sx = .is row n (.cut m)→n ≤ m) {o:OpA} {lv:AV} (h7:o.k = 7) (hr:0 ≤ o.a∧o.a < ((p.statics.len:Nat):Int)) {T:Sto} (hT:T = S ++ [Ob.cells 0 (oc o lv) 0]) :
  Shaped p X A L tx cd sx bl r l ns ar S k i o ((O2 (.mp X 0 0)).bind fun v38=>(fa 0 4 v38).bind fun v39=>(fa 2 1 v39).bind fun v40=>(ld false 1 T v40).bind fun v41=>(ld false 1 T (.mp S.length 0 1)).bind fun v42=>(ld false 1 T (.mp S.length 0 1)).bind fun v43=>(asI .i64 v43).bind fun n44=>(a06 4 v41 (some v42) (some (.int .i64 (IntKind.wrap .i64 (n44 + 1))))).bind fun v45=>(O1 ap 74 [v45] T).bind fun x46=>x46.1.on (fun v47=>if x46.2 = T then ((asI .i64 v47).bind fun n49=>some ⟨.ret (.bool (decide (64 < (IntKind.wrap .i64 (X9 k l + n49))))),none,T⟩) else none) (fun e48=>none)):=by
 have hN0:RN X A L gl tx cd sx bl r l ns ar T:=by rw [hT]; exact h.app _
 have hTn:T[S.length]? = some (.cells 0 (oc o lv) 0):=by rw [hT]; exact P6
 have r1:ld false 1 T (.mp S.length 0 1) = some (.int .i64 o.a):=O8 (n:=1) hTn rfl
 obtain ⟨w,hw⟩:∃ w:Nat,o.a = (w:Int):=⟨o.a.toNat,by omega⟩
 have hsl:=a1b p.statics
 obtain ⟨v,hcut,hfo⟩:=one_tree hS (i:=w) (by omega) hz hm
 have hnl:=a28 p.statics w (by omega)
 have hdp:=refDepth_spec hfo (by omega) T
 have hle:(look (nth p.statics w)).2.1 ≤ 1050000:=by
  unfold look
  split
  ·rename_i h0
   have:=wk_dp (nth p.statics w) 0 1 0 h0 (Nat.le_refl _)
   have h2:=dp_le (nth p.statics w)
   rw [this]
   split <;> omega
  ·exact Nat.zero_le _
 obtain ⟨q1,q2⟩:=a3C hv
 have hn1:=hv.nest1; have hn0:=hv.nest0; have hl:=hv.dep.len
 have w1:IntKind.wrap .i64 (((w:Nat):Int) + 1) = ((w + 1:Nat):Int):=w64 _ (by omega) (by omega)
 have hsA:Q1 p k l i o = !decide (64 < (IntKind.wrap .i64 (X9 k l + (((look (nth p.statics w)).2.1:Nat):Int)))):=by
  unfold Q1
  rw [if_neg (by omega),if_pos h7,hw,Int.toNat_natCast,q2]
  rw [a16 (by omega) (by omega),show IntKind.wrap .i64 (k.inn.nest + ((l.length:Nat):Int) - 1 + (((look (nth p.statics w)).2.1:Nat):Int)) = wr (k.inn.nest + ((l.length:Nat):Int) - 1 + (((look (nth p.statics w)).2.1:Nat):Int)) from rfl,a16 (by omega) (by omega)]
  by_cases c:(((look (nth p.statics w)).2.1:Nat):Int) ≤ 64 - (k.inn.nest + ((l.length:Nat):Int) - 1)
  ·rw [O4 c,O0 (by omega)]; rfl
  ·rw [O0 c,O4 (by omega)]; rfl
 have fin:=Z8 (p:=p) (k:=k) (i:=i) h hsA (fun _=>⟨by unfold shD; rw [if_neg (by omega)],by unfold shL; rw [if_neg (by omega),if_neg (by omega),if_neg (by omega)],by unfold shN; rw [if_neg (by omega),if_neg (by omega),if_neg (by omega)]⟩) _ hT
 refine Shaped.via (rdI hN0.hX (j:=0) (k:=2) rfl) ?_
 refine Shaped.via (br r1) ?_
 refine Shaped.via (br r1) ?_
 refine Shaped.via (br (aI _)) ?_
 rw [hw,w1]
 refine Shaped.via (br hcut) ?_
 refine Shaped.via (cr hdp) ?_
 refine Shaped.via (it rfl) ?_
 refine Shaped.via (br (aI _)) ?_
 exact fin
theorem shape_close (h:RN X A L gl tx cd sx bl r l ns ar S) (hv:Iv d0 os i k l ns ar) {o:OpA} {lv:AV} (h6:o.k = 6) {T:Sto} (hT:T = S ++ [Ob.cells 0 (oc o lv) 0]) {t6:Int} (ht6:t6 = ((ns.length:Nat):Int) - 1) :
  Shaped p X A L tx cd sx bl r l ns ar S k i o (bif (decide (t6 < 0)) then (c9.H5 (.mp X 0 0) t6 true T) else ((O2 (.mp X 0 0)).bind fun v133=>(fa 10 1 v133).bind fun v134=>(ld false 1 T v134).bind fun v135=>(O2 (.mp X 0 0)).bind fun v136=>(fa 10 1 v136).bind fun v137=>(ld false 1 T v137).bind fun v138=>(P3 v138).bind fun m139=>(ia 1 v135 (.int .i64 (IntKind.wrap .i64 (((m139:Nat):Int) - 1)))).bind fun v140=>(ld false 1 T v140).bind fun v141=>(asI .i64 v141).bind fun n142=>c9.H5 (.mp X 0 0) t6 (decide (0 < n142)) T)):=by
 have hN0:RN X A L gl tx cd sx bl r l ns ar T:=by rw [hT]; exact h.app _
 have hf0:Frm (Ms X r) S T:=by rw [hT]; exact Frm.app
 have hlv:=h.hlv
 have hlen:=hv.len; have hl0:=hv.dep.len; have hn1:=hv.nest1; have hn0:=hv.nest0
 obtain ⟨jl,hL⟩:=hN0.hL
 have wl:IntKind.wrap .i64 (((l.length:Nat):Int) - 1) = ((l.length - 1:Nat):Int):=w64 _ (by omega) (by omega)
 have hsA:Q1 p k l i o = (decide (1 < l.length) && decide (Q2 l = 0)):=by
  unfold Q1
  rw [if_neg (by omega),if_neg (by omega),if_neg (by omega),if_pos h6]
 have hpos:0 ≤ Q2 l:=by
  refine hv.dep.pos _ ?_
  unfold Q2
  rw [List.getD_eq_getElem?_getD,List.getElem?_eq_getElem (show l.length - 1 < l.length by omega)]
  exact List.getElem_mem _
 have bad:Q1 p k l i o = false→Shaped p X A L tx cd sx bl r l ns ar S k i o (c9.H5 (.mp X 0 0) t6 true T):=fun e=>by
  rw [c9.H5_e]
  exact Z8 h (b:=true) (by rw [e]; rfl) (fun h=>by rw [e] at h; cases h) _ hT
 by_cases c:t6 < 0
 ·refine Shaped.via (bt (O4 c)) ?_
  exact bad (by rw [hsA,O0 (by omega)]; rfl)
 refine Shaped.via (bf (O0 c)) ?_
 refine Shaped.via (rdM hN0.hX (k:=10) rfl) ?_
 refine Shaped.via (rdM hN0.hX (k:=10) rfl) ?_
 rw [hlv]
 refine Shaped.via (br (show P3 (.ms L gl 0 l.length 1) = some l.length from rfl)) ?_
 rw [wl]
 refine Shaped.via (br (ia_ms (by omega))) ?_
 refine Shaped.via (br (O8 (n:=l.length - 1) hL (last_at hl0 jl))) ?_
 refine Shaped.via (br (aI _)) ?_
 by_cases c2:0 < Q2 l
 ·rw [O4 c2]
  exact bad (by rw [hsA,O0 (show ¬ Q2 l = 0 by omega),Bool.and_false])
 rw [O0 c2]
 have e:Q1 p k l i o = true:=by rw [hsA,O4 (show 1 < l.length by omega),O4 (show Q2 l = 0 by omega)]; rfl
 obtain ⟨N,g,junk,q1,q2,q3,q4,q5⟩:∃ N g junk,r.nv = .ms N g 0 ns.length 1∧T[N]? = some (.cells g (strs ns ++ junk) 0)∧N ≠ X∧N ≠ A∧N ≠ L:=by
  rcases hN0.hN with ⟨h1,_⟩ | hx
  ·rw [h1] at ht6; simp at ht6; omega
  ·exact hx
 have e6:t6 = ((ns.length - 1:Nat):Int):=by omega
 have hXl:=(List.getElem?_eq_some_iff.1 hN0.hX).1
 obtain ⟨U1,hU1⟩:∃ U1,U1 = T.set X (.cells 0 ((xc tx cd sx bl r).set 11 (.ms N g 0 (ns.length - 1) 1)) 0):=⟨_,rfl⟩
 have hX1:U1[X]? = some (.cells 0 (xc tx cd sx bl { r with nv := .ms N g 0 (ns.length - 1) 1 }) 0):=by rw [hU1,List.getElem?_set_self hXl]; rfl
 have hXl1:=(List.getElem?_eq_some_iff.1 hX1).1
 obtain ⟨U2,hU2⟩:∃ U2,U2 = U1.set X (.cells 0 ((xc tx cd sx bl { r with nv := .ms N g 0 (ns.length - 1) 1 }).set 10 (.ms L gl 0 (l.length - 1) 1)) 0):=⟨_,rfl⟩
 have f1:Frm (Ms X r) T U1:=by rw [hU1]; exact Frm.set (.inl rfl)
 have f2:Frm (Ms X r) U1 U2:=by rw [hU2]; exact Frm.set (.inl rfl)
 refine ⟨U2,{ r with lv := .ms L gl 0 (l.length - 1) 1,nv := .ms N g 0 (ns.length - 1) 1 },gl,?_,hf0.trans (f1.trans f2),fun j hj=>?_,rfl,fun _=>⟨?_,?_⟩,fun h=>by rw [e] at h; cases h⟩
 ·rw [e,c9.H5_e]
  refine (bf rfl).trans ?_
  refine (rdM hN0.hX (k:=11) rfl).trans ?_
  rw [q1,e6]
  refine (br (cut_ms (by omega))).trans ?_
  refine (wrM hN0.hX (by show 11 < 12; omega) rfl rfl).trans ?_
  rw [←hU1]
  refine (rdM hX1 (k:=10) rfl).trans ?_
  refine (rdM hX1 (k:=10) rfl).trans ?_
  show ((P3 r.lv).bind fun m211=>_) = _
  rw [hlv]
  refine (br (show P3 (.ms L gl 0 l.length 1) = some l.length from rfl)).trans ?_
  rw [wl]
  refine (br (cut_ms (by omega))).trans ?_
  refine (wrM hX1 (by show 10 < 12; omega) rfl rfl).trans ?_
  rw [←hU2,c9.F8_e]
  rfl
 ·obtain ⟨_,_,_,_,ej⟩:=hj
  cases ej
  exact .inl ⟨_,_,_,_,q1⟩
 ·unfold shD; rw [if_neg (by omega)]
 ·have e1:shL o l = l.dropLast:=by unfold shL; rw [if_neg (by omega),if_pos h6]
  have e2:shN p o ns = ns.dropLast:=by unfold shN; rw [if_neg (by omega),if_neg (by omega),if_pos h6]
  rw [e1,e2]
  have hne:ns ≠ []:=by
   intro hx
   have:ns.length = 0:=by rw [hx]; rfl
   omega
  have hsn:strs ns = strs ns.dropLast ++ [.str (ns.getLast hne)]:=by
   conv=>lhs; rw [←List.dropLast_concat_getLast hne]
   simp [strs]
  refine ⟨by rw [hU2,List.getElem?_set_self hXl1]; rfl,?_,h.hI,by simp,⟨.int .i64 (Q2 l) :: jl,?_⟩, .inr ⟨N,g, .str (ns.getLast hne) :: junk,by simp,?_,q3,q4,q5⟩,h.n1,h.n2,h.n3⟩
  ·rw [hU2,List.getElem?_set_ne h.n1,hU1,List.getElem?_set_ne h.n1]; exact hN0.hA
  ·rw [hU2,List.getElem?_set_ne h.n2.symm,hU1,List.getElem?_set_ne h.n2.symm,hL,hc_drop hl0]; simp
  ·rw [hU2,List.getElem?_set_ne q3.symm,hU1,List.getElem?_set_ne q3.symm,q2,hsn]; simp
theorem shape_drop (h:RN X A L gl tx cd sx bl r l ns ar S) (hv:Iv d0 os i k l ns ar) {o:OpA} {lv:AV} (h12:o.k = 12) {T:Sto} (hT:T = S ++ [Ob.cells 0 (oc o lv) 0]) :
  Shaped p X A L tx cd sx bl r l ns ar S k i o ((ld false 1 T (.mp S.length 0 1)).bind fun v144=>(O2 (.mp X 0 0)).bind fun v145=>(fa 10 1 v145).bind fun v146=>(ld false 1 T v146).bind fun v147=>(O2 (.mp X 0 0)).bind fun v148=>(fa 10 1 v148).bind fun v149=>(ld false 1 T v149).bind fun v150=>(P3 v150).bind fun m151=>(ia 1 v147 (.int .i64 (IntKind.wrap .i64 (((m151:Nat):Int) - 1)))).bind fun v152=>(ld false 1 T v152).bind fun v153=>(asI .i64 v144).bind fun n154=>(asI .i64 v153).bind fun n155=>bif (decide (n155 < n154)) then (some ⟨.ret (.bool true),none,T⟩) else ((O2 (.mp X 0 0)).bind fun v156=>(fa 10 1 v156).bind fun v157=>(ld false 1 T v157).bind fun v158=>(O2 (.mp X 0 0)).bind fun v159=>(fa 10 1 v159).bind fun v160=>(ld false 1 T v160).bind fun v161=>(P3 v161).bind fun m162=>(O2 (.mp X 0 0)).bind fun v163=>(fa 10 1 v163).bind fun v164=>(ld false 1 T v164).bind fun v165=>(O2 (.mp X 0 0)).bind fun v166=>(fa 10 1 v166).bind fun v167=>(ld false 1 T v167).bind fun v168=>(P3 v168).bind fun m169=>(ia 1 v165 (.int .i64 (IntKind.wrap .i64 (((m169:Nat):Int) - 1)))).bind fun v170=>(ld false 1 T v170).bind fun v171=>(ld false 1 T (.mp S.length 0 1)).bind fun v172=>(asI .i64 v171).bind fun n173=>(asI .i64 v172).bind fun n174=>(ia 1 v158 (.int .i64 (IntKind.wrap .i64 (((m162:Nat):Int) - 1)))).bind fun v175=>(sto 1 T v175 (.int .i64 (IntKind.wrap .i64 (n173 - n174)))).bind fun s176=>(O2 (.mp X 0 0)).bind fun v177=>(fa 9 1 v177).bind fun v178=>(ld false 1 s176 v178).bind fun v179=>(ld false 1 s176 (.mp S.length 0 1)).bind fun v180=>(asI .i64 v179).bind fun n181=>(asI .i64 v180).bind fun n182=>(O2 (.mp X 0 0)).bind fun v183=>(fa 9 1 v183).bind fun v184=>(sto 1 s176 v184 (.int .i64 (IntKind.wrap .i64 (n181 - n182)))).bind fun s185=>c9.F8 s185)):=by
 have hN0:RN X A L gl tx cd sx bl r l ns ar T:=by rw [hT]; exact h.app _
 have hf0:Frm (Ms X r) S T:=by rw [hT]; exact Frm.app
 have hTn:T[S.length]? = some (.cells 0 (oc o lv) 0):=by rw [hT]; exact P6
 have r1:ld false 1 T (.mp S.length 0 1) = some (.int .i64 o.a):=O8 (n:=1) hTn rfl
 have hlv:=h.hlv
 have hlen:=hv.len; have hl0:=hv.dep.len; have hn1:=hv.nest1; have hn0:=hv.nest0
 obtain ⟨jl,hL⟩:=hN0.hL
 have hLl:=(List.getElem?_eq_some_iff.1 hL).1
 have hLS:L < S.length:=by
  obtain ⟨_,hx⟩:=h.hL
  exact (List.getElem?_eq_some_iff.1 hx).1
 have hXS:=(List.getElem?_eq_some_iff.1 h.hX).1
 have wl:IntKind.wrap .i64 (((l.length:Nat):Int) - 1) = ((l.length - 1:Nat):Int):=w64 _ (by omega) (by omega)
 have hll:P3 (.ms L gl 0 l.length 1) = some l.length:=rfl
 have rl:ld false 1 T (.mp L gl (l.length - 1)) = some (.int .i64 (Q2 l)):=O8 (n:=l.length - 1) hL (last_at hl0 jl)
 have hsA:Q1 p k l i o = decide (o.a ≤ Q2 l):=by
  unfold Q1
  rw [if_neg (by omega),if_neg (by omega),if_neg (by omega),if_neg (by omega),if_pos h12]
 refine Shaped.via (br r1) ?_
 refine Shaped.via (rdM hN0.hX (k:=10) rfl) ?_
 refine Shaped.via (rdM hN0.hX (k:=10) rfl) ?_
 rw [hlv]
 refine Shaped.via (br hll) ?_
 rw [wl]
 refine Shaped.via (br (ia_ms (by omega))) ?_
 refine Shaped.via (br rl) ?_
 refine Shaped.via (br (aI _)) ?_
 refine Shaped.via (br (aI _)) ?_
 by_cases c:Q2 l < o.a
 ·refine Shaped.via (bt (O4 c)) ?_
  have e:Q1 p k l i o = false:=by rw [hsA,O0 (by omega)]
  exact Z8 h (b:=true) (by rw [e]; rfl) (fun h=>by rw [e] at h; cases h) _ hT
 have e:Q1 p k l i o = true:=by rw [hsA,O4 (by omega)]
 obtain ⟨U1,hU1⟩:∃ U1,U1 = T.set L (.cells gl ((O6 l ++ jl).set (l.length - 1) (.int .i64 (IntKind.wrap .i64 (Q2 l - o.a)))) 0):=⟨_,rfl⟩
 have hs1:sto 1 T (.mp L gl (l.length - 1)) (.int .i64 (IntKind.wrap .i64 (Q2 l - o.a))) = some U1:=by
  rw [hU1]
  refine a3T hL ?_ rfl rfl
  rw [List.length_append]; simp [O6]; omega
 have hX1:U1[X]? = some (.cells 0 (xc tx cd sx bl r) 0):=by rw [hU1,List.getElem?_set_ne h.n2]; exact hN0.hX
 have hXl1:=(List.getElem?_eq_some_iff.1 hX1).1
 have r1':ld false 1 U1 (.mp S.length 0 1) = some (.int .i64 o.a):=by
  refine O8 (n:=1) (cs:=oc o lv) (g:=0) (fz:=0) ?_ rfl
  rw [hU1,List.getElem?_set_ne (by omega)]; exact hTn
 obtain ⟨U2,hU2⟩:∃ U2,U2 = U1.set X (.cells 0 ((xc tx cd sx bl r).set 9 (.int .i64 (IntKind.wrap .i64 (r.dep - o.a)))) 0):=⟨_,rfl⟩
 have f1:Frm (Ms X r) T U1:=by rw [hU1]; exact Frm.set (.inr (.inl ⟨_,_,_,_,hlv⟩))
 have f2:Frm (Ms X r) U1 U2:=by rw [hU2]; exact Frm.set (.inl rfl)
 refine ⟨U2,{ r with dep:=IntKind.wrap .i64 (r.dep - o.a) },gl,?_,hf0.trans (f1.trans f2),fun j hj => .inl hj,rfl,fun _=>⟨?_,?_⟩,fun h=>by rw [e] at h; cases h⟩
 ·rw [e]
  refine (bf (O0 c)).trans ?_
  refine (rdM hN0.hX (k:=10) rfl).trans ?_
  refine (rdM hN0.hX (k:=10) rfl).trans ?_
  rw [hlv]
  refine (br hll).trans ?_
  refine (rdM hN0.hX (k:=10) rfl).trans ?_
  refine (rdM hN0.hX (k:=10) rfl).trans ?_
  rw [hlv]
  refine (br hll).trans ?_
  rw [wl]
  refine (br (ia_ms (by omega))).trans ?_
  refine (br rl).trans ?_
  refine (br r1).trans ?_
  refine (br (aI _)).trans ?_
  refine (br (aI _)).trans ?_
  refine (br (ia_ms (by omega))).trans ?_
  refine (br hs1).trans ?_
  refine (rdM hX1 (k:=9) rfl).trans ?_
  refine (br r1').trans ?_
  refine (br (aI _)).trans ?_
  refine (br (aI _)).trans ?_
  refine (wrM hX1 (by show 9 < 12; omega) rfl rfl).trans ?_
  rw [←hU2,c9.F8_e]
  rfl
 ·unfold shD; rw [if_pos h12]
 ·have e1:shL o l = setLast l (wr (Q2 l - o.a)):=by unfold shL; rw [if_neg (by omega),if_neg (by omega),if_pos h12]
  have e2:shN p o ns = ns:=by unfold shN; rw [if_neg (by omega),if_neg (by omega),if_neg (by omega)]
  have hsl:(setLast l (wr (Q2 l - o.a))).length = l.length:=by simp [setLast]
  rw [e1,e2]
  refine ⟨by rw [hU2,List.getElem?_set_self hXl1]; rfl,?_,h.hI,by rw [hsl]; exact hlv,⟨jl,?_⟩,?_,h.n1,h.n2,h.n3⟩
  ·rw [hU2,List.getElem?_set_ne h.n1,hU1,List.getElem?_set_ne h.n3]; exact hN0.hA
  ·rw [hU2,List.getElem?_set_ne h.n2.symm,hU1,List.getElem?_set_self hLl,hc_last hl0]
  ·rcases hN0.hN with hx | ⟨N,g,junk,q1,q2,q3,q4,q5⟩
   ·exact .inl hx
   ·exact .inr ⟨N,g,junk,q1,by rw [hU2,List.getElem?_set_ne q3.symm,hU1,List.getElem?_set_ne q5.symm]; exact q2,q3,q4,q5⟩
theorem shape_attr (h:RN X A L gl tx cd sx bl r l ns ar S) (hv:Iv d0 os i k l ns ar) (hT':TxV p.texts tx) (hB:a3W p.blocks bl) (hos:os = (p.blocks.getD k.num.toNat default).ops) (hbl:ar.length = p.blocks.length) (hrb:r.blk = k.num) (hra:r.at_ = ((i:Nat):Int)) (hio:i < os.length) (hil:i ≤ 100000) {o:OpA} {lv:AV} (h45:o.k = 4∨o.k = 5) (ht:V5 p.texts o.a true = true) {T:Sto} (hT:T = S ++ [Ob.cells 0 (oc o lv) 0]) {t6:Int} (ht6:t6 = ((ns.length:Nat):Int) - 1) (kv:AV) :
  Shaped p X A L tx cd sx bl r l ns ar S k i o (c9.K3 (.mp X 0 0) S.length t6 kv true T):=by
 have hN0:RN X A L gl tx cd sx bl r l ns ar T:=by rw [hT]; exact h.app _
 have hf0:Frm (Ms X r) S T:=by rw [hT]; exact Frm.app
 have hTn:T[S.length]? = some (.cells 0 (oc o lv) 0):=by rw [hT]; exact P6
 have r1:ld false 1 T (.mp S.length 0 1) = some (.int .i64 o.a):=O8 (n:=1) hTn rfl
 have hn0:=hv.num0; have hn1:=hv.num1; have hop1:=hv.op1
 obtain ⟨b,hb⟩:∃ b:Nat,k.num = (b:Int):=⟨k.num.toNat,by omega⟩
 have hbt:k.num.toNat = b:=by omega
 rw [hbt] at hos
 obtain ⟨cs,hib,ov,uv,rfl,hov,huv⟩:=hB.2.2.2 b (by omega)
 rw [←hos] at hov
 have htx:0 ≤ o.a∧o.a < ((p.texts.length:Nat):Int)∧p.texts.getD o.a.toNat ⟨#[]⟩ ≠ ⟨#[]⟩:=by
  unfold V5 a0h at ht
  simp only [Bool.and_eq_true,decide_eq_true_eq,Bool.not_true,Bool.false_or] at ht
  exact ⟨ht.1.1,ht.1.2,wordB_ne ht.2⟩
 obtain ⟨w,hw⟩:∃ w:Nat,o.a = (w:Int):=⟨o.a.toNat,by omega⟩
 obtain ⟨hx0,hx1,hx2⟩:=htx
 obtain ⟨cs,hiw,rfl⟩:=hT'.2.2.2 w (by omega)
 rw [hw,Int.toNat_natCast] at hx2
 obtain ⟨new,hnew⟩:∃ new,new = p.texts.getD w ⟨#[]⟩:=⟨_,rfl⟩
 rw [←hnew] at hiw hx2
 have hsA:Q1 p k l i o = !(!decide (k.opened = wr (((i:Nat):Int) - 1)) || (decide (i = 0) || (!decide (k.name = ⟨#[]⟩) && !Z6 k.name new))):=by
  unfold Q1
  rw [if_neg (by omega),if_neg (by omega),if_pos h45,hw,Int.toNat_natCast,←hnew]
 have wi:wr (((i:Nat):Int) - 1) = ((i:Nat):Int) - 1:=a16 (by omega) (by omega)
 rw [wi] at hsA
 have bad:Q1 p k l i o = false→Shaped p X A L tx cd sx bl r l ns ar S k i o (c9.G8 (.mp X 0 0) S.length t6 true T):=fun e=>by
  rw [c9.G8_e]
  exact Z8 h (b:=true) (by rw [e]; rfl) (fun h=>by rw [e] at h; cases h) _ hT
 have z:fa 1 1 (.ip [.int .i64 (p.blocks.getD b default).depth,ov,uv]) = some (.ip [ov]):=rfl
 have z2:ld false 1 T (.ip [ov]) = some ov:=rfl
 rw [c9.K3_e]
 refine Shaped.via (bt rfl) ?_
 refine Shaped.via (rdI hN0.hX (j:=0) (k:=3) rfl) ?_
 refine Shaped.via (rdM hN0.hX (k:=5) rfl) ?_
 rw [hrb,hb]
 refine Shaped.via (br hib) ?_
 refine Shaped.via (br z) ?_
 refine Shaped.via (br z2) ?_
 refine Shaped.via (rdM hN0.hX (k:=8) rfl) ?_
 refine Shaped.via (br (aI _)) ?_
 rw [hra]
 by_cases hi0:i = 0
 ·refine Shaped.via (bt (O4 (by omega))) ?_
  exact bad (by rw [hsA,O4 hi0]; simp)
 refine Shaped.via (bf (O0 (by omega))) ?_
 by_cases hn:t6 < 0
 ·refine Shaped.via (bt (O4 hn)) ?_
  refine bad ?_
  by_cases ho:k.opened = ((i:Nat):Int) - 1
  ·have:=(hv.last ho hi0).1
   omega
  ·rw [hsA,O0 ho]; rfl
 refine Shaped.via (bf (O0 hn)) ?_
 have wi1:IntKind.wrap .i64 (((i:Nat):Int) - 1) = ((i - 1:Nat):Int):=w64 _ (by omega) (by omega)
 obtain ⟨cs,hip,plv,rfl,hpl⟩:=hov.2.2.2 (i - 1) (by omega)
 obtain ⟨pk,hpk⟩:∃ pk,pk = (os.getD (i - 1) default).k:=⟨_,rfl⟩
 have z3:fa 0 1 (.ip (oc (os.getD (i - 1) default) plv)) = some (.ip [.int .i64 pk]):=by rw [hpk]; rfl
 have z4:ld false 1 T (.ip [.int .i64 pk]) = some (.int .i64 pk):=rfl
 obtain ⟨N,g,junk,q1,q2,q3,q4,q5⟩:∃ N g junk,r.nv = .ms N g 0 ns.length 1∧T[N]? = some (.cells g (strs ns ++ junk) 0)∧N ≠ X∧N ≠ A∧N ≠ L:=by
  rcases hN0.hN with ⟨h1,_⟩ | hx
  ·rw [h1] at ht6; simp at ht6; omega
  ·exact hx
 have e6:t6 = ((ns.length - 1:Nat):Int):=by omega
 have hNl:=(List.getElem?_eq_some_iff.1 q2).1
 have rn:ld false 1 T (.mp N g (ns.length - 1)) = some (.str (ns.getD (ns.length - 1) ⟨#[]⟩)):=O8 (n:=ns.length - 1) q2 (str_at (by omega) junk)
 have cmp:pk = 3∨pk = 4∨pk = 5→Shaped p X A L tx cd sx bl r l ns ar S k i o ((O2 (.mp X 0 0)).bind fun v90=>(fa 11 1 v90).bind fun v91=>(ld false 1 T v91).bind fun v92=>(ia 1 v92 (.int .i64 t6)).bind fun v93=>(ld false 1 T v93).bind fun v94=>(O2 (.mp X 0 0)).bind fun v95=>(fa 0 4 v95).bind fun v96=>(fa 0 1 v96).bind fun v97=>(ld false 1 T v97).bind fun v98=>(ld false 1 T (.mp S.length 0 1)).bind fun v99=>(ia 1 v98 v99).bind fun v100=>(ld false 1 T v100).bind fun v101=>(asS v94).bind fun s102=>(asS v101).bind fun s103=>c9.G8 (.mp X 0 0) S.length t6 (!Z6 s102 s103) T):=by
  intro hk
  have ho:k.opened = ((i:Nat):Int) - 1:=(hv.op2.2 ⟨hi0,by rw [←hpk]; exact hk⟩).1
  obtain ⟨hl1,hl2⟩:=hv.last ho hi0
  have hsA2:Q1 p k l i o = Z6 k.name new:=by
   rw [hsA,O4 ho,O0 hi0]
   by_cases hne:k.name = ⟨#[]⟩
   ·rw [O4 hne,hne,sLess_nil hx2]; rfl
   ·rw [O0 hne]; simp
  refine Shaped.via (rdM hN0.hX (k:=11) rfl) ?_
  rw [q1,e6]
  refine Shaped.via (br (ia_ms (by omega))) ?_
  refine Shaped.via (br rn) ?_
  refine Shaped.via (rdI hN0.hX (j:=0) (k:=0) rfl) ?_
  refine Shaped.via (br r1) ?_
  rw [hw]
  refine Shaped.via (br hiw) ?_
  refine Shaped.via (br (show ld false 1 T (.ip [.str new]) = some (.str new) from rfl)) ?_
  refine Shaped.via (br (aS _)) ?_
  refine Shaped.via (br (aS _)) ?_
  rw [hl2,←e6]
  cases hs:Z6 k.name new with
  | false=>exact bad (by rw [hsA2,hs])
  | true=>
   have e:Q1 p k l i o = true:=by rw [hsA2,hs]
   obtain ⟨U,hU⟩:∃ U,U = T.set N (.cells g ((strs ns ++ junk).set (ns.length - 1) (.str new)) 0):=⟨_,rfl⟩
   have hst:sto 1 T (.mp N g (ns.length - 1)) (.str new) = some U:=by
    rw [hU]
    refine a3T q2 ?_ rfl rfl
    rw [List.length_append]; simp [strs]; omega
   refine ⟨U,r,gl,?_,hf0.trans (by rw [hU]; exact Frm.set (.inr (.inr ⟨_,_,_,_,q1⟩))),fun j hj => .inl hj,rfl,fun _=>⟨?_,?_⟩,fun h=>by rw [e] at h; cases h⟩
   ·rw [e,c9.G8_e]
    refine (bf rfl).trans ?_
    refine (rdM hN0.hX (k:=11) rfl).trans ?_
    refine (rdI hN0.hX (j:=0) (k:=0) rfl).trans ?_
    refine (br r1).trans ?_
    rw [hw]
    refine (br hiw).trans ?_
    refine (br (show ld false 1 T (.ip [.str new]) = some (.str new) from rfl)).trans ?_
    rw [q1,e6]
    refine (br (ia_ms (by omega))).trans ?_
    refine (br hst).trans ?_
    rw [c9.F8_e]
    rfl
   ·unfold shD; rw [if_neg (by omega)]
   ·have e1:shL o l = l:=by unfold shL; rw [if_neg (by omega),if_neg (by omega),if_neg (by omega)]
    have e2:shN p o ns = ns.set (ns.length - 1) new:=by unfold shN; rw [if_neg (by omega),if_pos h45,hw,Int.toNat_natCast,←hnew]
    obtain ⟨jl,hL⟩:=hN0.hL
    rw [e1,e2]
    refine ⟨by rw [hU,List.getElem?_set_ne q3]; exact hN0.hX,by rw [hU,List.getElem?_set_ne q4]; exact hN0.hA,h.hI,h.hlv,⟨jl,by rw [hU,List.getElem?_set_ne q5]; exact hL⟩, .inr ⟨N,g,junk,by rw [List.length_set]; exact q1,?_,q3,q4,q5⟩,h.n1,h.n2,h.n3⟩
    rw [hU,List.getElem?_set_self hNl,List.set_append_left _ _ (by simp [strs]; omega)]
    simp [strs,List.map_set]
 have rk:∀ {F:Int→Option Res},((O2 (.mp X 0 0)).bind fun v66=>(fa 8 1 v66).bind fun v67=>(ld false 1 T v67).bind fun v68=>(asI .i64 v68).bind fun n69=>(ia 5 ov (.int .i64 (IntKind.wrap .i64 (n69 - 1)))).bind fun v70=>(fa 0 1 v70).bind fun v71=>(ld false 1 T v71).bind fun v72=>(asI .i64 v72).bind fun n73=>F n73) = F pk:=fun {F}=>by
  refine (rdM hN0.hX (k:=8) rfl).trans ?_
  refine (br (aI _)).trans ?_
  rw [hra,wi1]
  refine (br hip).trans ?_
  refine (br z3).trans ?_
  refine (br z4).trans ?_
  exact br (aI _)
 refine Shaped.via rk ?_
 by_cases p3:pk = 3
 ·refine Shaped.via (bf (by rw [O4 p3]; rfl)) ?_
  exact cmp (.inl p3)
 refine Shaped.via (bt (by rw [O0 p3]; rfl)) ?_
 refine Shaped.via rk ?_
 by_cases p4:pk = 4
 ·refine Shaped.via (bf (by rw [O4 p4]; rfl)) ?_
  exact cmp (.inr (.inl p4))
 refine Shaped.via (bt (by rw [O0 p4]; rfl)) ?_
 refine Shaped.via rk ?_
 by_cases p5:pk = 5
 ·refine Shaped.via (bf (by rw [O4 p5]; rfl)) ?_
  exact cmp (.inr (.inr p5))
 refine Shaped.via (bt (by rw [O0 p5]; rfl)) ?_
 refine bad ?_
 have ho:¬ k.opened = ((i:Nat):Int) - 1:=fun ho=>by
  have:=(hv.op2.1 ⟨ho,hi0⟩).2
  rw [←hpk] at this
  rcases this with h | h | h
  ·exact p3 h
  ·exact p4 h
  ·exact p5 h
 rw [hsA,O0 ho]
 rfl
open Classical in
theorem shapeX_spec (h:RN X A L gl tx cd sx bl r l ns ar S) (hv:Iv d0 os i k l ns ar) (hT':TxV p.texts tx) (hB:a3W p.blocks bl) (hS:FoM p.statics sx) (hz:p.statics.sz ≤ 1050000) (hm:∀ row n m,sx = .is row n (.cut m)→n ≤ m) (hos:os = (p.blocks.getD k.num.toNat default).ops) (hbl:ar.length = p.blocks.length) (hrb:r.blk = k.num) (hra:r.at_ = ((i:Nat):Int)) (hio:i < os.length) (hil:i ≤ 100000) {o:OpA} {lv:AV} (hl:W4 o.l lv) (hf:Y6 p i o = true) :
  Shaped p X A L tx cd sx bl r l ns ar S k i o (O1 ap 42 [.mp X 0 0, .agg (oc o lv)] S |>.bind fun x=>some ⟨x.1,none,x.2⟩):=by
 obtain ⟨T,hT⟩:∃ T,T = S ++ [Ob.cells 0 (oc o lv) 0]:=⟨_,rfl⟩
 have hN0:RN X A L gl tx cd sx bl r l ns ar T:=by rw [hT]; exact h.app _
 have hTn:T[S.length]? = some (.cells 0 (oc o lv) 0):=by rw [hT]; exact P6
 have r0:ld false 1 T (.mp S.length 0 0) = some (.int .i64 o.k):=O8 (n:=0) hTn rfl
 have hall:(AV.cells (.agg (oc o lv))).all AV.isCell = true:=by
  show (oc o lv).all AV.isCell = true
  simp only [oc,List.all_cons,List.all_nil,hl.2.1,Bool.and_true]
  rfl
 have hc:AV.cells (.agg (oc o lv)) = oc o lv:=rfl
 have hn0:=hv.num0; have hn1:=hv.num1; have hlen:=hv.len; have hl0:=hv.dep.len; have hne1:=hv.nest1; have hne0:=hv.nest0
 obtain ⟨b,hb⟩:∃ b:Nat,k.num = (b:Int):=⟨k.num.toNat,by omega⟩
 have hbt:k.num.toNat = b:=by omega
 obtain ⟨f1,f2,f3,f4⟩:=a0X hf
 have hnest:ld false 1 T (.mp A 0 (b * 5 + 1)) = some (.int .i64 k.inn.nest):=by
  refine O8 (n:=b * 5 + 1) hN0.hA (rc_cell ar 0 b 1 _ (by omega) (by omega) ?_)
  have:=hv.inn
  rw [hbt] at this
  show some (AV.int .i64 (ar.getD b default).nest) = _
  rw [show ar.getD b default = k.inn from this]
 have wn:IntKind.wrap .i64 (((ns.length:Nat):Int) - 1) = ((ns.length:Nat):Int) - 1:=a16 (by omega) (by omega)
 obtain ⟨q1,q2⟩:=a3C hv
 suffices hb:Shaped p X A L tx cd sx bl r l ns ar S k i o (c9.b (.mp X 0 0) (.agg (oc o lv)) S) by
  obtain ⟨S',r',gl',e1,e2⟩:=hb
  refine ⟨S',r',gl',?_,e2⟩
  rw [c9.call,e1]
  rfl
 rw [c9.b_eq,if_pos hall,hc,←hT]
 refine Shaped.via (rdM hN0.hX (k:=4) rfl) ?_
 refine Shaped.via (rdM hN0.hX (k:=5) rfl) ?_
 rw [hrb,hb,h.hI]
 refine Shaped.via (br (ia_ar (by omega))) ?_
 refine Shaped.via (br (show fa 1 1 (.mp A 0 (b * 5)) = some (.mp A 0 (b * 5 + 1)) from rfl)) ?_
 refine Shaped.via (br hnest) ?_
 refine Shaped.via (rdM hN0.hX (k:=11) rfl) ?_
 refine Shaped.via (br hN0.nlen) ?_
 refine Shaped.via (br (aI _)) ?_
 refine Shaped.via (rdM hN0.hX (k:=11) rfl) ?_
 refine Shaped.via (br hN0.nlen) ?_
 refine Shaped.via (br r0) ?_
 refine Shaped.via (br (aI _)) ?_
 rw [q1,wn]
 by_cases k3:o.k = 3
 ·refine Shaped.via (bt (O4 k3)) ?_
  exact shape_open h hv k3 hT
 refine Shaped.via (bf (O0 k3)) ?_
 refine Shaped.via (br (aI _)) ?_
 by_cases k7:o.k = 7
 ·refine Shaped.via (bt (O4 k7)) ?_
  exact shape_static h hv hS hz hm k7 (f2 k7) hT
 refine Shaped.via (bf (O0 k7)) ?_
 refine Shaped.via (br (aI _)) ?_
 have q:∀ b,b = decide (o.k = 4∨o.k = 5)→Shaped p X A L tx cd sx bl r l ns ar S k i o (c9.K3 (.mp X 0 0) S.length (((ns.length:Nat):Int) - 1) (.int .i64 o.k) b T):=by
  intro b hb
  subst hb
  by_cases k4:o.k = 4∨o.k = 5
  ·rw [O4 k4]
   have ht:V5 p.texts o.a true = true:=by
    unfold Y6 a00 at hf
    rcases k4 with k4 | k4
    ·rw [if_neg (by omega),if_neg (by omega),if_pos k4] at hf
     simp only [Bool.and_eq_true] at hf
     exact hf.2.2.2.1
    ·rw [if_neg (by omega),if_neg (by omega),if_neg (by omega),if_pos k4] at hf
     simp only [Bool.and_eq_true] at hf
     exact hf.2.2.2
   exact shape_attr h hv hT' hB hos hbl hrb hra hio hil k4 ht hT rfl _
  rw [O0 k4,c9.K3_e]
  refine Shaped.via (bf rfl) ?_
  refine Shaped.via (br (aI _)) ?_
  by_cases k6:o.k = 6
  ·refine Shaped.via (bt (O4 k6)) ?_
   exact shape_close h hv k6 hT rfl
  refine Shaped.via (bf (O0 k6)) ?_
  refine Shaped.via (br (aI _)) ?_
  by_cases k12:o.k = 12
  ·refine Shaped.via (bt (O4 k12)) ?_
   exact shape_drop h hv k12 hT
  refine Shaped.via (bf (O0 k12)) ?_
  rw [c9.F8_e]
  refine Z8 h (b:=false) ?_ (fun _=>⟨by unfold shD; rw [if_neg k12],by unfold shL; rw [if_neg k3,if_neg k6,if_neg k12],by unfold shN; rw [if_neg k3,if_neg k4,if_neg k6]⟩) _ hT
  unfold Q1
  rw [if_neg k3,if_neg k7,if_neg k4,if_neg k6,if_neg k12]
  rfl
 by_cases k4:o.k = 4
 ·refine Shaped.via (bt (O4 k4)) ?_
  rw [O4 k4]
  exact q _ (O4 (.inl k4)).symm
 ·refine Shaped.via (bf (O0 k4)) ?_
  refine Shaped.via (br (aI _)) ?_
  exact q _ (decide_eq_decide.2 ⟨fun h => .inr h,fun h=>h.elim (fun h=>absurd h k4) id⟩)
end
end Go.Proofs.YtcgepgahgihojaaGreatDoor
