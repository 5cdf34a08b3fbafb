import Derived.Test.YtcgepgahgihojaaGreatDoorRows
import Derived.Test.YtcgepgahgihojaaGreatDoorQ5
namespace Go.Proofs.YtcgepgahgihojaaGreatDoor
open Go.St Go.Lib
set_option linter.unusedVariables false
set_option linter.unusedSimpArgs false
def Rx.fail (r:Rx) (e pl:Int):Rx:=if r.fault = 0 then { r with fault:=e,place:=pl } else r
def Mo (X A:Nat) (r:Rx) (j:Nat):Prop:=j = X∨j = A∨Ref r.lv j
section
variable {p:PrA} {X A L gl:Nat} {tx cd sx bl:AV} {r:Rx} {l l1:List Int} {ns:List ByteArray} {ar:List Ar} {S T:Sto} {k:Bk} {d0:Int} {os:List OpA} {i:Nat}
theorem R2 (hX:S[X]? = some (.cells 0 (xc tx cd sx bl r) 0)) (e pl:Int):O1 ap 19 [.mp X 0 0, .int .i64 e, .int .i64 pl] S = some (.ret (.tup []),S.set X (.cells 0 (xc tx cd sx bl (r.fail e pl)) 0)):=by
 have hXl:=(List.getElem?_eq_some_iff.1 hX).1
 have hb:A2.b (.mp X 0 0) e pl S = some ⟨.ret (.tup []),none,S.set X (.cells 0 (xc tx cd sx bl (r.fail e pl)) 0)⟩:=by
  rw [A2.b_eq]
  refine (rdM hX (k:=7) rfl).trans ?_
  refine (br (aI _)).trans ?_
  unfold Rx.fail
  by_cases h:r.fault = 0
  ·rw [if_pos h]
   refine (bt (O4 h)).trans ?_
   refine (wrM hX (by show 7 < 12; omega) rfl rfl).trans ?_
   have hX1:(S.set X (.cells 0 ((xc tx cd sx bl r).set 7 (.int .i64 e)) 0))[X]? = some (.cells 0 (xc tx cd sx bl { r with fault:=e }) 0):=by rw [List.getElem?_set_self hXl]; rfl
   refine (wrM hX1 (by show 6 < 12; omega) rfl rfl).trans ?_
   rw [List.set_set]
   rfl
  ·rw [if_neg h,R1 hX]
   exact bf (O0 h)
 rw [A2.call,hb]
 simp only [Option.bind_some]
 rw [gc_same (by simp) rfl]
theorem RN.setX (h:RN X A L gl tx cd sx bl r l ns ar S) {r':Rx} (h1:r'.inn = r.inn) (h2:r'.lv = r.lv) (h3:r'.nv = r.nv):RN X A L gl tx cd sx bl r' l ns ar (S.set X (.cells 0 (xc tx cd sx bl r') 0)):=by
 have hXl:=(List.getElem?_eq_some_iff.1 h.hX).1
 obtain ⟨j1,hL⟩:=h.hL
 refine ⟨List.getElem?_set_self hXl,by rw [List.getElem?_set_ne h.n1]; exact h.hA,by rw [h1]; exact h.hI,by rw [h2]; exact h.hlv,⟨j1,by rw [List.getElem?_set_ne h.n2.symm]; exact hL⟩,?_,h.n1,h.n2,h.n3⟩
 rcases h.hN with ⟨q,q'⟩ | ⟨N,g,junk,q1,q2,q3,q4,q5⟩
 ·exact .inl ⟨q,by rw [h3]; exact q'⟩
 ·exact .inr ⟨N,g,junk,by rw [h3]; exact q1,by rw [List.getElem?_set_ne q3.symm]; exact q2,q3,q4,q5⟩
theorem Rx.fail_inn (r:Rx) (e pl:Int):(r.fail e pl).inn = r.inn∧(r.fail e pl).lv = r.lv∧(r.fail e pl).nv = r.nv∧(r.fail e pl).blk = r.blk∧(r.fail e pl).at_ = r.at_∧(r.fail e pl).dep = r.dep:=by
 unfold Rx.fail
 split <;> exact ⟨rfl,rfl,rfl,rfl,rfl,rfl⟩
theorem RN.fail (h:RN X A L gl tx cd sx bl r l ns ar S) (e pl:Int):RN X A L gl tx cd sx bl (r.fail e pl) l ns ar (S.set X (.cells 0 (xc tx cd sx bl (r.fail e pl)) 0)):=
 h.setX (r.fail_inn e pl).1 (r.fail_inn e pl).2.1 (r.fail_inn e pl).2.2.1
theorem rc_sto {l:List Ar} (h:S[A]? = some (.cells 0 (Q8 0 l) 0)) {w:Nat} (hw:w < l.length) (a:Ar):sto 5 S (.mp A 0 (w * 5)) (.agg (a0y w a)) = some (S.set A (.cells 0 (Q8 0 (l.set w a)) 0)):=by
 have h1:w * 5 + (a0y w a).length ≤ (Q8 0 l).length:=by rw [rc_len]; show w * 5 + 5 ≤ _; omega
 have h2:(a0y w a).all AV.isCell = true:=rfl
 have h3:=rc_set l 0 w a hw
 rw [Nat.zero_add] at h3
 unfold sto
 rw [show (AV.agg (a0y w a)).cells = a0y w a from rfl,if_pos (show (a0y w a).length = 5 from rfl)]
 simp only [W6,h,h1,h2,Nat.zero_le,true_and,and_self,if_true,h3]
def a0c (o:OpA):Int:=if o.k = 9 then 2 else if o.k = 10 then ((o.l.length:Nat):Int) else if o.k = 11 then 1 else 0
def a1D (k:Bk) (o:OpA):Int:=if o.k = 9 then wr (k.inn.loops + 1) else k.inn.loops
def ownE (k:Bk) (p:PrA) (ar:List Ar) (o:OpA):Nat:=if a15 k p ar o = false then 2205 else if a1w k o = true then 2208 else if o.k = 9∧8 ≤ k.inn.loops then 2206 else 0
def owD (o:OpA) (d:Int):Int:=if o.k = 11 then wr (d + 1) else d
def owL (o:OpA) (l:List Int):List Int:=if o.k = 11 then setLast l (wr (Q2 l + 1)) else l
theorem owL_len (o:OpA) (l:List Int):(owL o l).length = l.length:=by
 unfold owL
 split <;> simp [setLast]
theorem more_of {o:OpA}:∀ x ∈ O3 o,x.2 = a0c o:=by
 intro x hx
 unfold O3 a1r at hx
 unfold a0c
 by_cases h8:o.k = 8
 ·rw [if_pos h8] at hx
  rw [if_neg (by omega),if_neg (by omega),if_neg (by omega)]
  obtain ⟨y,_,rfl⟩:=List.mem_map.1 hx
  rfl
 ·rw [if_neg h8] at hx
  by_cases h9:o.k = 9
  ·rw [if_pos h9] at hx ⊢
   rw [List.mem_singleton.1 hx]
  ·rw [if_neg h9] at hx ⊢
   by_cases h10:o.k = 10
   ·rw [if_pos h10] at hx ⊢
    rw [List.mem_singleton.1 hx]
   ·rw [if_neg h10] at hx
    cases hx
theorem a2n {o:OpA} (h8:o.k ≠ 8) (h9:o.k ≠ 9) (h10:o.k ≠ 10):O3 o = []:=by
 unfold O3
 rw [if_neg h8,if_neg h9,if_neg h10]
theorem deep_same {o:OpA} {d:Int} (hd:0 ≤ d∧d ≤ 64) (he:o.k = 8∨o.k = 9∨o.k = 10∨o.k = 11→d = k.depth):decide (64 < IntKind.wrap .i64 (d + a0c o)) = a1w k o:=by
 have w0:IntKind.wrap .i64 (d + 0) = d:=by rw [Int.add_zero]; exact a16 (by omega) (by omega)
 unfold a1w
 by_cases h11:o.k = 11
 ·rw [if_pos h11,←he (by omega)]
  unfold a0c
  rw [if_neg (by omega),if_neg (by omega),if_pos h11]
 rw [if_neg h11]
 by_cases h9:o.k = 9
 ·have e:O3 o = [(o.c,2)]:=by unfold O3; rw [if_neg (by omega),if_pos h9]
  have m:a0c o = 2:=by unfold a0c; rw [if_pos h9]
  rw [e,m,←he (by omega)]
  simp
 by_cases h10:o.k = 10
 ·have e:O3 o = [(o.c,((o.l.length:Nat):Int))]:=by unfold O3; rw [if_neg (by omega),if_neg h9,if_pos h10]
  have m:a0c o = ((o.l.length:Nat):Int):=by unfold a0c; rw [if_neg h9,if_pos h10]
  rw [e,m,←he (by omega)]
  simp
 have m:a0c o = 0:=by unfold a0c; rw [if_neg h9,if_neg h10,if_neg h11]
 rw [m,w0,O0 (by omega)]
 symm
 rw [List.any_eq_false]
 intro x hx
 have hx2:=more_of x hx
 rw [m] at hx2
 by_cases h8:o.k = 8
 ·rw [hx2,←he (by omega),w0]
  simp
  omega
 ·rw [a2n h8 h9 h10] at hx
  cases hx
def R4 (p:PrA) (X A L gl:Nat) (tx cd sx bl:AV) (r:Rx) (l l1:List Int) (ns:List ByteArray) (ar:List Ar) (S:Sto) (k:Bk) (o:OpA) (x:Option Res):Prop:=
 ∃ S' r' l',x = some ⟨.ret (.tup []),none,S'⟩∧Frm (Mo X A r) S S'∧r' = { r with place:=r'.place,fault:=r'.fault,dep:=r'.dep }∧l'.length = l1.length ∧
  (ownE k p ar o = 0→r'.fault = 0∧r'.place = r.place∧r'.dep = owD o r.dep∧RN X A L gl tx cd sx bl r' (owL o l1) ns (a2u k l o ar (O3 o)) S') ∧
  (ownE k p ar o ≠ 0→r'.fault = ((ownE k p ar o:Nat):Int)∧r'.place = r.at_∧RN X A L gl tx cd sx bl r' l' ns ar S')
theorem R4.via {x y:Option Res} {o:OpA} (h:x = y) (k':R4 p X A L gl tx cd sx bl r l l1 ns ar S k o y):R4 p X A L gl tx cd sx bl r l l1 ns ar S k o x:=by rw [h]; exact k'
theorem own_end {n:Nat} {o:OpA} {lv:AV} (h:RN X A L gl tx cd sx bl r l1 ns ar T) (ho:T[n]? = some (.cells 0 (oc o lv) 0)) (hl0:0 < l1.length) (hl1:l1.length ≤ 1000) (t4 t7:AV) (t6 t8:Int) :
  ∃ S',c7.H9 (.mp X 0 0) n t4 t6 t7 t8 false T = some ⟨.ret (.tup []),none,S'⟩∧Frm (Mo X A r) T S'∧RN X A L gl tx cd sx bl { r with dep:=owD o r.dep } (owL o l1) ns ar S':=by
 have r0:ld false 1 T (.mp n 0 0) = some (.int .i64 o.k):=O8 (n:=0) ho rfl
 rw [c7.H9_e]
 unfold owD owL
 by_cases h11:o.k = 11
 ·rw [if_pos h11,if_pos h11]
  have hXl:=(List.getElem?_eq_some_iff.1 h.hX).1
  obtain ⟨U,hU⟩:∃ U,U = T.set X (.cells 0 (xc tx cd sx bl { r with dep:=wr (r.dep + 1) }) 0):=⟨_,rfl⟩
  have hN:RN X A L gl tx cd sx bl { r with dep:=wr (r.dep + 1) } l1 ns ar U:=by rw [hU]; exact h.setX rfl rfl rfl
  obtain ⟨jl,hL⟩:=hN.hL
  have hLl:=(List.getElem?_eq_some_iff.1 hL).1
  have hlv:=h.hlv
  have wl:IntKind.wrap .i64 (((l1.length:Nat):Int) - 1) = ((l1.length - 1:Nat):Int):=w64 _ (by omega) (by omega)
  have rl:ld false 1 U (.mp L gl (l1.length - 1)) = some (.int .i64 (Q2 l1)):=O8 (n:=l1.length - 1) hL (last_at hl0 jl)
  obtain ⟨V,hV⟩:∃ V,V = U.set L (.cells gl ((O6 l1 ++ jl).set (l1.length - 1) (.int .i64 (wr (Q2 l1 + 1)))) 0):=⟨_,rfl⟩
  have hst:sto 1 U (.mp L gl (l1.length - 1)) (.int .i64 (wr (Q2 l1 + 1))) = some V:=by
   rw [hV]
   refine a3T hL ?_ rfl rfl
   rw [List.length_append]; simp [O6]; omega
  have hsl:(setLast l1 (wr (Q2 l1 + 1))).length = l1.length:=by simp [setLast]
  refine ⟨V,?_,?_,?_⟩
  ·refine (bf rfl).trans ?_
   refine (br r0).trans ?_
   refine (br (aI _)).trans ?_
   refine (bt (O4 h11)).trans ?_
   refine (rdM h.hX (k:=9) rfl).trans ?_
   refine (br (aI _)).trans ?_
   refine (wrM h.hX (by show 9 < 12; omega) rfl rfl).trans ?_
   show ((O2 (.mp X 0 0)).bind fun v117=>_) = _
   rw [show T.set X (.cells 0 ((xc tx cd sx bl r).set 9 (.int .i64 (IntKind.wrap .i64 (r.dep + 1)))) 0) = U from hU.symm]
   refine (rdM hN.hX (k:=10) rfl).trans ?_
   refine (rdM hN.hX (k:=10) rfl).trans ?_
   show ((P3 r.lv).bind fun m123=>_) = _
   rw [hlv]
   refine (br (show P3 (.ms L gl 0 l1.length 1) = some l1.length from rfl)).trans ?_
   rw [wl]
   refine (br (ia_ms (by omega))).trans ?_
   refine (br rl).trans ?_
   refine (br (aI _)).trans ?_
   refine (br (ia_ms (by omega))).trans ?_
   exact br hst
  ·rw [hV,hU]
   exact (Frm.set (.inl rfl)).trans (Frm.set (.inr (.inr ⟨_,_,_,_,hlv⟩)))
  ·refine ⟨by rw [hV,List.getElem?_set_ne h.n2]; exact hN.hX,by rw [hV,List.getElem?_set_ne h.n3]; exact hN.hA,h.hI,by rw [hsl]; exact hlv,⟨jl,?_⟩,?_,h.n1,h.n2,h.n3⟩
   ·rw [hV,List.getElem?_set_self hLl,hc_last hl0]
   ·rcases hN.hN with hx | ⟨N,g,junk,q1,q2,q3,q4,q5⟩
    ·exact .inl hx
    ·exact .inr ⟨N,g,junk,q1,by rw [hV,List.getElem?_set_ne q5.symm]; exact q2,q3,q4,q5⟩
 ·rw [if_neg h11,if_neg h11]
  refine ⟨T,?_,Frm.refl _ _,h⟩
  refine (bf rfl).trans ?_
  refine (br r0).trans ?_
  refine (br (aI _)).trans ?_
  exact bf (O0 h11)
theorem own_done {n:Nat} {o:OpA} {lv t4:AV} (hn0:0 ≤ k.num) (hrb:r.blk = k.num) (hrf:r.fault = 0) (hlen:ns.length + 1 = l.length) (he:O3 o ≠ []→r.dep = k.depth) (hnX:n ≠ A) (hl:W4 ((O3 o).map Prod.fst) t4) (hne:IntKind.wrap .i64 (k.inn.nest + ((ns.length:Nat):Int)) = X9 k l):∀ (m i:Nat) (ar:List Ar) (T:Sto),i + m = (O3 o).length→RN X A L gl tx cd sx bl r l1 ns ar T→T[n]? = some (.cells 0 (oc o lv) 0)→k.num < ((ar.length:Nat):Int)→a3V ar k.num.toNat = k.inn→(∀ x ∈ O3 o,k.num < x.1∧x.1 < ((ar.length:Nat):Int)) →
  ∃ T',c7.I4 (.mp X 0 0) n t4 (a0c o) (.int .i64 (a1D k o)) ((i:Nat):Int) T = c7.H9 (.mp X 0 0) n t4 (a0c o) (.int .i64 (a1D k o)) (((O3 o).length:Nat):Int) false T'∧RN X A L gl tx cd sx bl r l1 ns (a2u k l o ar ((O3 o).drop i)) T'∧T'[n]? = some (.cells 0 (oc o lv) 0)∧Frm (Mo X A r) T T':=by
 have hl1:=hl.1
 rw [List.length_map] at hl1
 have hb2:=W9 o
 intro m
 induction m with
 | zero=>
  intro i ar T him h ho _ _ _
  have hi:i = (O3 o).length:=by omega
  subst hi
  refine ⟨T,?_,by rw [List.drop_length]; exact h,ho,Frm.refl _ _⟩
  rw [c7.I4_e]
  refine (br hl1).trans ?_
  exact bf (O0 (by omega))
 | succ m ih=>
  intro i ar T him h ho hn1 hin hx
  have hi:i < (O3 o).length:=by omega
  obtain ⟨x,hxi⟩:∃ x,(O3 o)[i]? = some x:=⟨_,List.getElem?_eq_getElem hi⟩
  have hxm:x ∈ O3 o:=List.mem_of_getElem? hxi
  have hd:(O3 o).drop i = x :: (O3 o).drop (i + 1):=by
   rw [List.drop_eq_getElem_cons hi,(List.getElem?_eq_some_iff.1 hxi).2]
  obtain ⟨hx1,hx2⟩:=hx x hxm
  obtain ⟨w,hw⟩:∃ w:Nat,x.1 = (w:Int):=⟨x.1.toNat,by omega⟩
  obtain ⟨cs,hia,rfl⟩:=hl.2.2.2 i (by rw [List.length_map]; exact hi)
  have hgd:((O3 o).map Prod.fst).getD i 0 = x.1:=by rw [List.getD_eq_getElem?_getD,List.getElem?_map,hxi]; rfl
  rw [hgd,hw] at hia
  have hne':O3 o ≠ []:=by intro hq; rw [hq] at hxm; cases hxm
  have hdep:=he hne'
  obtain ⟨b,hb⟩:∃ b:Nat,k.num = (b:Int):=⟨k.num.toNat,by omega⟩
  have hbt:k.num.toNat = b:=by omega
  rw [hbt] at hin
  have r0:ld false 1 T (.mp n 0 0) = some (.int .i64 o.k):=O8 (n:=0) ho rfl
  have hnest:ld false 1 T (.mp A 0 (b * 5 + 1)) = some (.int .i64 k.inn.nest):=by
   refine O8 (n:=b * 5 + 1) h.hA (rc_cell ar 0 b 1 _ (by omega) (by omega) ?_)
   show some (AV.int .i64 (ar.getD b default).nest) = _
   rw [show ar.getD b default = k.inn from hin]
  have hagg:(X3 (O9 (fun i=>([(0,1),(1,1),(2,1),(3,1),(4,1)]:List (Nat × Nat))[i]?) [.int .i64 0, .int .i64 0, .int .i64 0, .bool false, .bool false] [(0,(.int .i64 (IntKind.wrap .i64 (k.depth + a0c o)))),(1,(.int .i64 (X9 k l))),(2,(.int .i64 (a1D k o))),(3,(.bool true)),(4,(.bool (decide (o.k = 9))))])) = some (.agg (a0y w (a17 k l o x.2))):=by
   rw [more_of x hxm]
   rfl
  have wi:IntKind.wrap .i64 (((i:Nat):Int) + 1) = ((i + 1:Nat):Int):=w64 _ (by omega) (by omega)
  obtain ⟨U,hU⟩:∃ U,U = T.set A (.cells 0 (Q8 0 (ar.set w (a17 k l o x.2))) 0):=⟨_,rfl⟩
  have hsto:sto 5 T (.mp A 0 (w * 5)) (.agg (a0y w (a17 k l o x.2))) = some U:=by rw [hU]; exact rc_sto h.hA (by omega) _
  have hAl:=(List.getElem?_eq_some_iff.1 h.hA).1
  have hNU:RN X A L gl tx cd sx bl r l1 ns (ar.set w (a17 k l o x.2)) U:=by
   obtain ⟨jl,hL⟩:=h.hL
   refine ⟨by rw [hU,List.getElem?_set_ne h.n1.symm]; exact h.hX,by rw [hU]; exact List.getElem?_set_self hAl,by rw [List.length_set]; exact h.hI,h.hlv,⟨jl,by rw [hU,List.getElem?_set_ne h.n3.symm]; exact hL⟩,?_,h.n1,h.n2,h.n3⟩
   rcases h.hN with hq | ⟨N,g,junk,q1,q2,q3,q4,q5⟩
   ·exact .inl hq
   ·exact .inr ⟨N,g,junk,q1,by rw [hU,List.getElem?_set_ne q4.symm]; exact q2,q3,q4,q5⟩
  have hoU:U[n]? = some (.cells 0 (oc o lv) 0):=by rw [hU,List.getElem?_set_ne hnX.symm]; exact ho
  obtain ⟨T',k1,k2,k3,k4⟩:=ih (i + 1) _ U (by omega) hNU hoU (by rw [List.length_set]; exact hn1) (by rw [a2Q (by omega),hbt,if_neg (by omega)]; exact hin) (by rw [List.length_set]; exact hx)
  refine ⟨T',?_,?_,k3,Frm.trans (by rw [hU]; exact Frm.set (.inr (.inl rfl))) k4⟩
  ·rw [c7.I4_e]
   refine (br hl1).trans ?_
   refine (bt (O4 (by omega))).trans ?_
   refine (rdM h.hX (k:=7) rfl).trans ?_
   refine (br (aI _)).trans ?_
   rw [O4 hrf,c7.H9_e]
   refine (bt rfl).trans ?_
   refine (rdM h.hX (k:=4) rfl).trans ?_
   refine (br hia).trans ?_
   refine (br (show ld false 1 T (.ip [.int .i64 ((w:Nat):Int)]) = some (.int .i64 ((w:Nat):Int)) from rfl)).trans ?_
   refine (rdM h.hX (k:=9) rfl).trans ?_
   refine (br (aI _)).trans ?_
   refine (rdM h.hX (k:=4) rfl).trans ?_
   refine (rdM h.hX (k:=5) rfl).trans ?_
   rw [hrb,hb,h.hI]
   refine (br (ia_ar (by omega))).trans ?_
   refine (br (show fa 1 1 (.mp A 0 (b * 5)) = some (.mp A 0 (b * 5 + 1)) from rfl)).trans ?_
   refine (br hnest).trans ?_
   refine (rdM h.hX (k:=11) rfl).trans ?_
   refine (br h.nlen).trans ?_
   refine (br (aI _)).trans ?_
   refine (br r0).trans ?_
   refine (br (aI _)).trans ?_
   rw [hne,hdep]
   refine (br hagg).trans ?_
   refine (br (ia_ar (by omega))).trans ?_
   refine (br hsto).trans ?_
   rw [wi]
   exact k1
  ·rw [hd]
   simp only [a2u]
   rw [hw,Int.toNat_natCast]
   exact k2
theorem own_chk {n:Nat} {o:OpA} {t4:AV} (hB:P3 bl = some p.blocks.length) (hX:T[X]? = some (.cells 0 (xc tx cd sx bl r) 0)) (hA:T[A]? = some (.cells 0 (Q8 0 ar) 0)) (hI:r.inn = .ms A 0 0 ar.length 5) (har:ar.length = p.blocks.length) (hn0:0 ≤ k.num) (hrb:r.blk = k.num) (hl:W4 ((O3 o).map Prod.fst) t4):∀ (m i:Nat),i + m = (O3 o).length →
  c7.F0 (.mp X 0 0) n t4 ((i:Nat):Int) T = bif a27 k.num p.blocks.length ar (O3 o) i ((O3 o).drop i) then c7.F0 (.mp X 0 0) n t4 (((O3 o).length:Nat):Int) T else some ⟨.ret (.tup []),none,T.set X (.cells 0 (xc tx cd sx bl (r.fail 2205 r.at_)) 0)⟩:=by
 have hl1:=hl.1
 rw [List.length_map] at hl1
 have hb2:=W9 o
 intro m
 induction m with
 | zero=>
  intro i him
  have hi:i = (O3 o).length:=by omega
  subst hi
  rw [List.drop_length]
  rfl
 | succ m ih=>
  intro i him
  have hi:i < (O3 o).length:=by omega
  obtain ⟨x,hxi⟩:∃ x,(O3 o)[i]? = some x:=⟨_,List.getElem?_eq_getElem hi⟩
  have hd:(O3 o).drop i = x :: (O3 o).drop (i + 1):=by
   rw [List.drop_eq_getElem_cons hi,(List.getElem?_eq_some_iff.1 hxi).2]
  obtain ⟨cs,hia,rfl⟩:=hl.2.2.2 i (by rw [List.length_map]; exact hi)
  have hgd:((O3 o).map Prod.fst).getD i 0 = x.1:=by rw [List.getD_eq_getElem?_getD,List.getElem?_map,hxi]; rfl
  rw [hgd] at hia
  have wi:IntKind.wrap .i64 (((i:Nat):Int) + 1) = ((i + 1:Nat):Int):=w64 _ (by omega) (by omega)
  have rx:∀ y:Int,ld false 1 T (.ip [.int .i64 y]) = some (.int .i64 y):=fun _=>rfl
  have out:∀ b,b = ownB k.num p.blocks.length ar (O3 o) i x→c7.H2 (.mp X 0 0) n t4 ((i:Nat):Int) (!b) T = bif a27 k.num p.blocks.length ar (O3 o) i ((O3 o).drop i) then c7.F0 (.mp X 0 0) n t4 (((O3 o).length:Nat):Int) T else some ⟨.ret (.tup []),none,T.set X (.cells 0 (xc tx cd sx bl (r.fail 2205 r.at_)) 0)⟩:=by
   intro b hb
   rw [c7.H2_e,hd]
   simp only [a27]
   rw [←hb]
   cases b with
   | true=>
    rw [Bool.true_and,wi]
    exact (bf rfl).trans (ih (i + 1) (by omega))
   | false=>
    rw [Bool.false_and,cond_false]
    refine (bt rfl).trans ?_
    refine (rdM hX (k:=8) rfl).trans ?_
    exact cr (R2 hX 2205 r.at_)
  rw [c7.F0_e]
  refine (br hl1).trans ?_
  refine (bt (O4 (by omega))).trans ?_
  refine (br hia).trans ?_
  refine (br (rx _)).trans ?_
  refine (rdM hX (k:=5) rfl).trans ?_
  refine (br (aI _)).trans ?_
  refine (br (aI _)).trans ?_
  rw [hrb]
  by_cases c1:x.1 ≤ k.num
  ·refine (bt (O4 c1)).trans ?_
   exact out false (by unfold ownB; rw [O4 c1]; rfl)
  refine (bf (O0 c1)).trans ?_
  refine (br hia).trans ?_
  refine (br (rx _)).trans ?_
  refine (rdI hX (j:=0) (k:=3) rfl).trans ?_
  refine (br hB).trans ?_
  refine (br (aI _)).trans ?_
  by_cases c2:((p.blocks.length:Nat):Int) ≤ x.1
  ·refine (bt (O4 c2)).trans ?_
   exact out false (by unfold ownB; rw [O4 c2,O0 c1]; rfl)
  refine (bf (O0 c2)).trans ?_
  obtain ⟨w,hw⟩:∃ w:Nat,x.1 = (w:Int):=⟨x.1.toNat,by omega⟩
  have hown:ld false 1 T (.mp A 0 (w * 5 + 3)) = some (.bool (owned ar x.1)):=by
   refine O8 (n:=w * 5 + 3) hA (rc_cell ar 0 w 3 _ (by omega) (by omega) ?_)
   show some (AV.bool ((ar.getD w default).owned || decide (0 + w = 0))) = _
   unfold owned
   rw [O0 (by omega),Bool.or_false,hw,Int.toNat_natCast]
  refine (rdM hX (k:=4) rfl).trans ?_
  refine (br hia).trans ?_
  refine (br (rx _)).trans ?_
  rw [hI]
  rw [hw] at hown ⊢
  refine (br (ia_ar (by omega))).trans ?_
  refine (br (show fa 3 1 (.mp A 0 (w * 5)) = some (.mp A 0 (w * 5 + 3)) from rfl)).trans ?_
  refine (br hown).trans ?_
  refine (br (aB _)).trans ?_
  rw [hw] at c1 c2
  cases ho:owned ar ((w:Nat):Int) with
  | true=>
   refine (bt rfl).trans ?_
   exact out false (by unfold ownB; rw [hw,O0 c1,O0 c2,ho]; rfl)
  | false=>
   refine (bf rfl).trans ?_
   by_cases c3:i = 1
   ·refine (bt (O4 (by omega))).trans ?_
    obtain ⟨ds,hi0,rfl⟩:=hl.2.2.2 0 (by rw [List.length_map]; omega)
    subst c3
    rw [hw] at hia
    have g0:((O3 o).map Prod.fst).getD 0 0 = ((O3 o).getD 0 (0,0)).1:=by
     rw [List.getD_eq_getElem?_getD,List.getElem?_map,List.getD_eq_getElem?_getD,List.getElem?_eq_getElem (show 0 < (O3 o).length by omega)]
     rfl
    rw [g0] at hi0
    refine (br hi0).trans ?_
    refine (br (rx _)).trans ?_
    refine (br hia).trans ?_
    refine (br (rx _)).trans ?_
    refine (br (aI _)).trans ?_
    refine (br (aI _)).trans ?_
    have:=out (!decide (((O3 o).getD 0 (0,0)).1 = ((w:Nat):Int))) (by unfold ownB; rw [hw,O0 c1,O0 c2,ho]; rfl)
    rw [Bool.not_not] at this
    exact this
   ·refine (bf (O0 (by omega))).trans ?_
    have:i = 0:=by omega
    subst this
    exact out true (by unfold ownB; rw [hw,O0 c1,O0 c2,ho]; rfl)
theorem own_spec (h:RN X A L gl tx cd sx bl r l1 ns ar S) {o:OpA} {lv:AV} (hl:W4 o.l lv) (hB:P3 bl = some p.blocks.length) (har:ar.length = p.blocks.length) (hn0:0 ≤ k.num) (hn1:k.num < ((ar.length:Nat):Int)) (hrb:r.blk = k.num) (hrf:r.fault = 0) (hin:a3V ar k.num.toNat = k.inn) (hlo:0 ≤ k.inn.loops∧k.inn.loops ≤ 8) (hd:0 ≤ r.dep∧r.dep ≤ 64) (he:o.k = 8∨o.k = 9∨o.k = 10∨o.k = 11→r.dep = k.depth∧ns.length + 1 = l.length∧IntKind.wrap .i64 (k.inn.nest + ((ns.length:Nat):Int)) = X9 k l) (hl0:0 < l1.length) (hl1:l1.length ≤ 1000) (hAS:A < S.length) :
  R4 p X A L gl tx cd sx bl r l l1 ns ar S k o ((O1 ap 43 [.mp X 0 0, .agg (oc o lv)] S).bind fun x=>some ⟨x.1,none,x.2⟩):=by
 obtain ⟨T,hT⟩:∃ T,T = S ++ [Ob.cells 0 (oc o lv) 0]:=⟨_,rfl⟩
 have hN0:RN X A L gl tx cd sx bl r l1 ns ar T:=by rw [hT]; exact h.app _
 have hTn:T[S.length]? = some (.cells 0 (oc o lv) 0):=by rw [hT]; exact P6
 have hf0:Frm (Mo X A r) S T:=by rw [hT]; exact Frm.app
 have hall:(AV.cells (.agg (oc o lv))).all AV.isCell = true:=by
  show (oc o lv).all AV.isCell = true
  simp only [oc,List.all_cons,List.all_nil,hl.2.1,Bool.and_true]
  rfl
 have hc:AV.cells (.agg (oc o lv)) = oc o lv:=rfl
 have hXS:=(List.getElem?_eq_some_iff.1 h.hX).1
 have r0:ld false 1 T (.mp S.length 0 0) = some (.int .i64 o.k):=O8 (n:=0) hTn rfl
 have r4:ld false 1 T (.mp S.length 0 4) = some lv:=O8 (n:=4) hTn rfl
 have r5:ld true 5 T (.mp S.length 0 0) = some (.agg (oc o lv)):=Z7 hTn rfl
 obtain ⟨t4,hbs,ht4⟩:=a3Y hl T
 have ht4l:=ht4.1
 rw [List.length_map] at ht4l
 suffices hb:R4 p X A L gl tx cd sx bl r l l1 ns ar S k o (c7.b (.mp X 0 0) (.agg (oc o lv)) S) by
  obtain ⟨S',r',l',e1,e2⟩:=hb
  refine ⟨S',r',l',?_,e2⟩
  rw [c7.call,e1]
  rfl
 rw [c7.b_eq,if_pos hall,hc,←hT]
 refine R4.via (br r5) ?_
 refine R4.via (cr hbs) ?_
 have hck:=own_chk (n:=S.length) (k:=k) (T:=T) hB hN0.hX hN0.hA h.hI har hn0 hrb ht4 (O3 o).length 0 (by omega)
 rw [List.drop_zero] at hck
 refine R4.via hck ?_
 rcases (Q4 (a15 k p ar o)).symm with hown | hown
 rotate_left
 ·have hE:ownE k p ar o = 2205:=by unfold ownE; rw [if_pos hown]
  unfold a15 at hown
  refine R4.via (bf hown) ?_
  have hfl:r.fail 2205 r.at_ = { r with fault:=2205,place:=r.at_ }:=by unfold Rx.fail; rw [if_pos hrf]
  refine ⟨_,{ r with fault:=2205,place:=r.at_ },l1,rfl,hf0.trans (Frm.set (.inl rfl)),rfl,rfl,fun hz=>absurd hz (by rw [hE]; decide),fun _=>⟨by rw [hE]; rfl,rfl,?_⟩⟩
  have:=hN0.fail 2205 r.at_
  rw [hfl] at this ⊢
  exact this
 have hown':=hown
 unfold a15 at hown'
 refine R4.via (bt hown') ?_
 obtain ⟨b,hb⟩:∃ b:Nat,k.num = (b:Int):=⟨k.num.toNat,by omega⟩
 have hbt:k.num.toNat = b:=by omega
 rw [hbt] at hin
 have hloops:ld false 1 T (.mp A 0 (b * 5 + 2)) = some (.int .i64 k.inn.loops):=by
  refine O8 (n:=b * 5 + 2) hN0.hA (rc_cell ar 0 b 2 _ (by omega) (by omega) ?_)
  show some (AV.int .i64 (ar.getD b default).loops) = _
  rw [show ar.getD b default = k.inn from hin]
 have hfacts:=a2W (O3 o) 0 hown'
 have hwl:wr (k.inn.loops + 1) = k.inn.loops + 1:=a16 (by omega) (by omega)
 have hloopA:decide (8 < a1D k o) = decide (o.k = 9∧8 ≤ k.inn.loops):=by
  unfold a1D
  by_cases h9:o.k = 9
  ·rw [if_pos h9,hwl]
   exact decide_eq_decide.2 ⟨fun q=>⟨h9,by omega⟩,fun q=>by omega⟩
  ·rw [if_neg h9,O0 (by omega),O0 (fun q=>h9 q.1)]
 have hbne:O3 o ≠ []→o.k = 8∨o.k = 9∨o.k = 10∨o.k = 11:=fun hq=>by
  by_cases h8:o.k = 8
  ·exact .inl h8
  by_cases h9:o.k = 9
  ·exact .inr (.inl h9)
  by_cases h10:o.k = 10
  ·exact .inr (.inr (.inl h10))
  exact absurd (a2n h8 h9 h10) hq
 have bad:∀ (r2:Rx) (T2:Sto) (e:Nat),ownE k p ar o = e→e ≠ 0→r2 = { r with place:=r2.place,fault:=r2.fault }→r2.fault = ((e:Nat):Int)→r2.place = r.at_→RN X A L gl tx cd sx bl r2 l1 ns ar T2→T2[S.length]? = some (.cells 0 (oc o lv) 0)→Frm (Mo X A r) S T2 →
   R4 p X A L gl tx cd sx bl r l l1 ns ar S k o (c7.M0 (.mp X 0 0) S.length t4 (a0c o) (.int .i64 (a1D k o)) T2):=by
  intro r2 T2 e hE hne hr2 hr2f hr2p hN2 hT2 hF2
  obtain ⟨S',e1,e2,e3⟩:=own_end hN2 hT2 hl0 hl1 t4 (.int .i64 (a1D k o)) (a0c o) 0
  have hlv2:r2.lv = r.lv:=by rw [hr2]
  have hF:Frm (Mo X A r) T2 S':=e2.weak fun j hj=>by
   unfold Mo at hj ⊢
   rw [hlv2] at hj
   exact hj
  refine ⟨S',{ r2 with dep:=owD o r2.dep },owL o l1,?_,hF2.trans hF,?_,owL_len _ _,fun hz=>absurd hz (by rw [hE]; exact hne),fun _=>⟨by rw [hE]; exact hr2f,hr2p,e3⟩⟩
  ·rw [c7.M0_e,c7.I4_e]
   refine (br ht4l).trans ?_
   by_cases hz:(O3 o).length = 0
   ·refine (bf (O0 (by omega))).trans ?_
    exact e1
   ·refine (bt (O4 (by omega))).trans ?_
    refine (rdM hN2.hX (k:=7) rfl).trans ?_
    refine (br (aI _)).trans ?_
    rw [O0 (show ¬ r2.fault = 0 by rw [hr2f]; omega)]
    exact e1
  ·rw [hr2]
 have good:ownE k p ar o = 0→R4 p X A L gl tx cd sx bl r l l1 ns ar S k o (c7.M0 (.mp X 0 0) S.length t4 (a0c o) (.int .i64 (a1D k o)) T):=by
  intro hE
  have hx:∀ x ∈ O3 o,k.num < x.1∧x.1 < ((ar.length:Nat):Int):=fun x hx=>by
   have:=hfacts x hx
   omega
  have step:∃ T',c7.I4 (.mp X 0 0) S.length t4 (a0c o) (.int .i64 (a1D k o)) 0 T = c7.H9 (.mp X 0 0) S.length t4 (a0c o) (.int .i64 (a1D k o)) (((O3 o).length:Nat):Int) false T'∧RN X A L gl tx cd sx bl r l1 ns (a2u k l o ar (O3 o)) T'∧T'[S.length]? = some (.cells 0 (oc o lv) 0)∧Frm (Mo X A r) T T':=by
   by_cases hz:O3 o = []
   ·refine ⟨T,?_,by rw [hz]; exact hN0,hTn,Frm.refl _ _⟩
    rw [c7.I4_e]
    refine (br ht4l).trans ?_
    rw [hz]
    exact bf rfl
   ·obtain ⟨q1,q2,q3⟩:=he (hbne hz)
    have:=own_done (n:=S.length) (lv:=lv) (k:=k) (l:=l) hn0 hrb hrf q2 (fun _=>q1) (by omega) ht4 q3 (O3 o).length 0 ar T (by omega) hN0 hTn hn1 (by rw [hbt]; exact hin) hx
    rw [List.drop_zero] at this
    exact this
  obtain ⟨T',k1,k2,k3,k4⟩:=step
  obtain ⟨S',e1,e2,e3⟩:=own_end k2 k3 hl0 hl1 t4 (.int .i64 (a1D k o)) (a0c o) (((O3 o).length:Nat):Int)
  refine ⟨S',{ r with dep:=owD o r.dep },l1,?_,hf0.trans (k4.trans e2),rfl,rfl,fun _=>⟨hrf,rfl,rfl,e3⟩,fun hz=>absurd hE hz⟩
  rw [c7.M0_e,k1]
  exact e1
 have tail:R4 p X A L gl tx cd sx bl r l l1 ns ar S k o (c7.I5 (.mp X 0 0) S.length t4 (a0c o) (.int .i64 (a1D k o)) T):=by
  have hdeep:=deep_same (k:=k) hd (fun q=>(he q).1)
  rw [c7.I5_e]
  refine R4.via (rdM hN0.hX (k:=9) rfl) ?_
  refine R4.via (br (aI _)) ?_
  rw [hdeep]
  rcases (Q4 (a1w k o)).symm with hdp | hdp
  ·rw [hdp]
   have hE:ownE k p ar o = 2208:=by unfold ownE; rw [if_neg (by rw [hown]; simp),if_pos hdp]
   refine R4.via (bt rfl) ?_
   refine R4.via (rdM hN0.hX (k:=8) rfl) ?_
   refine R4.via (cr (R2 hN0.hX 2208 r.at_)) ?_
   have hfl:r.fail 2208 r.at_ = { r with fault:=2208,place:=r.at_ }:=by unfold Rx.fail; rw [if_pos hrf]
   have hN1:=hN0.fail 2208 r.at_
   rw [hfl] at hN1 ⊢
   have hT1:∀ (q:Ob),(T.set X q)[S.length]? = some (.cells 0 (oc o lv) 0):=fun q=>by rw [List.getElem?_set_ne (by omega)]; exact hTn
   have hF1:∀ (q:Ob),Frm (Mo X A r) S (T.set X q):=fun q=>hf0.trans (Frm.set (.inl rfl))
   rw [c7.J3_e]
   refine R4.via (br (aI _)) ?_
   by_cases h8:8 < a1D k o
   ·refine R4.via (bt (O4 h8)) ?_
    refine R4.via (rdM hN1.hX (k:=8) rfl) ?_
    refine R4.via (cr (R2 hN1.hX 2206 r.at_)) ?_
    have hfl2:({ r with fault:=2208,place:=r.at_ }:Rx).fail 2206 r.at_ = { r with fault:=2208,place:=r.at_ }:=by unfold Rx.fail; rw [if_neg (by show ¬ (2208:Int) = 0; decide)]
    have hN2:=hN1.fail 2206 r.at_
    rw [hfl2] at hN2 ⊢
    rw [List.set_set] at hN2 ⊢
    exact bad { r with fault:=2208,place:=r.at_ } _ 2208 hE (by decide) rfl rfl rfl hN2 (hT1 _) (hF1 _)
   ·refine R4.via (bf (O0 h8)) ?_
    exact bad { r with fault:=2208,place:=r.at_ } _ 2208 hE (by decide) rfl rfl rfl hN1 (hT1 _) (hF1 _)
  ·rw [hdp]
   refine R4.via (bf rfl) ?_
   rw [c7.J3_e]
   refine R4.via (br (aI _)) ?_
   rw [hloopA]
   by_cases h8:o.k = 9∧8 ≤ k.inn.loops
   ·have hE:ownE k p ar o = 2206:=by unfold ownE; rw [if_neg (by rw [hown]; simp),if_neg (by rw [hdp]; simp),if_pos h8]
    refine R4.via (bt (O4 h8)) ?_
    refine R4.via (rdM hN0.hX (k:=8) rfl) ?_
    refine R4.via (cr (R2 hN0.hX 2206 r.at_)) ?_
    have hfl:r.fail 2206 r.at_ = { r with fault:=2206,place:=r.at_ }:=by unfold Rx.fail; rw [if_pos hrf]
    have hN1:=hN0.fail 2206 r.at_
    rw [hfl] at hN1 ⊢
    exact bad { r with fault:=2206,place:=r.at_ } _ 2206 hE (by decide) rfl rfl rfl hN1 (by rw [List.getElem?_set_ne (by omega)]; exact hTn) (hf0.trans (Frm.set (.inl rfl)))
   ·refine R4.via (bf (O0 h8)) ?_
    exact good (by unfold ownE; rw [if_neg (by rw [hown]; simp),if_neg (by rw [hdp]; simp),if_neg h8])
 rw [c7.F0_e]
 refine R4.via (br ht4l) ?_
 refine R4.via (bf (O0 (by omega))) ?_
 refine R4.via (rdM hN0.hX (k:=4) rfl) ?_
 refine R4.via (rdM hN0.hX (k:=5) rfl) ?_
 rw [hrb,hb,h.hI]
 refine R4.via (br (ia_ar (by omega))) ?_
 refine R4.via (br (show fa 2 1 (.mp A 0 (b * 5)) = some (.mp A 0 (b * 5 + 2)) from rfl)) ?_
 refine R4.via (br hloops) ?_
 refine R4.via (br r0) ?_
 refine R4.via (br (aI _)) ?_
 unfold a0c a1D at tail
 by_cases h9:o.k = 9
 ·rw [if_pos h9,if_pos h9] at tail
  refine R4.via (bt (O4 h9)) ?_
  refine R4.via (br (aI _)) ?_
  exact tail
 rw [if_neg h9,if_neg h9] at tail
 refine R4.via (bf (O0 h9)) ?_
 refine R4.via (br (aI _)) ?_
 by_cases h10:o.k = 10
 ·rw [if_pos h10] at tail
  refine R4.via (bt (O4 h10)) ?_
  refine R4.via (br r4) ?_
  refine R4.via (br hl.1) ?_
  exact tail
 rw [if_neg h10] at tail
 refine R4.via (bf (O0 h10)) ?_
 refine R4.via (br (aI _)) ?_
 by_cases h11:o.k = 11
 ·rw [if_pos h11] at tail
  exact R4.via (bt (O4 h11)) tail
 ·rw [if_neg h11] at tail
  exact R4.via (bf (O0 h11)) tail
end
end Go.Proofs.YtcgepgahgihojaaGreatDoor
namespace Go.Proofs.YtcgepgahgihojaaGreatDoor
open Go.St Go.Lib
set_option linter.unusedVariables false
set_option linter.unusedSimpArgs false
theorem shape_form {p:PrA} {i:Nat} {o:OpA} (h:Y6 p i o = true):(o.k = 12→1 ≤ o.a)∧o.l.length ≤ 64:=by
 have e1:=h
 unfold Y6 at e1
 simp only [Bool.and_eq_true,Bool.not_eq_true',Bool.or_eq_false_iff,decide_eq_false_iff_not] at e1
 refine ⟨fun k12=>?_,by omega⟩
 have:=e1.2.2
 unfold a00 at this
 rw [if_neg (by omega),if_neg (by omega),if_neg (by omega),if_neg (by omega),if_neg (by omega),if_neg (by omega),if_pos k12,Bool.and_eq_true] at this
 exact of_decide_eq_true this.2
theorem shL_len {d0:Int} {os:List OpA} {i:Nat} {k:Bk} {l:List Int} {ns:List ByteArray} {ar:List Ar} (hv:Iv d0 os i k l ns ar) {p:PrA} {o:OpA} (hs:Q1 p k l i o = true) :
  (shN p o ns).length + 1 = (shL o l).length∧0 < (shL o l).length∧k.inn.nest + (((shL o l).length:Nat):Int) ≤ 64:=by
 have hlen:=hv.len; have hl0:=hv.dep.len; have hn1:=hv.nest1; have hn0:=hv.nest0
 unfold shN shL
 by_cases k3:o.k = 3
 ·rw [if_pos k3,if_pos k3]
  unfold Q1 at hs
  rw [if_pos k3,(a3C hv).2] at hs
  have hs:=of_decide_eq_true hs
  rw [a16 (by omega) (by omega)] at hs
  simp only [List.length_append,List.length_cons,List.length_nil]
  omega
 rw [if_neg k3,if_neg k3]
 by_cases k4:o.k = 4∨o.k = 5
 ·rw [if_pos k4,if_neg (by omega),if_neg (by omega),List.length_set]
  omega
 rw [if_neg k4]
 by_cases k6:o.k = 6
 ·rw [if_pos k6,if_pos k6]
  obtain ⟨s1,s2⟩:=Y2 hs k6
  simp only [List.length_dropLast]
  omega
 rw [if_neg k6,if_neg k6]
 split
 ·simp only [setLast,List.length_set]
  omega
 ·omega
theorem shD_rng {d0:Int} {os:List OpA} {i:Nat} {k:Bk} {l:List Int} {ns:List ByteArray} {ar:List Ar} (hv:Iv d0 os i k l ns ar) {p:PrA} {o:OpA} (hf:Y6 p i o = true) (hs:Q1 p k l i o = true):0 ≤ shD o k.depth∧shD o k.depth ≤ 64:=by
 have h1:=hv.dep.ge
 have h2:=hv.dep.top
 have h3:=hv.dep.d0
 unfold shD
 by_cases k12:o.k = 12
 ·rw [if_pos k12]
  have ha:=(shape_form hf).1 k12
  unfold Q1 at hs
  rw [if_neg (by omega),if_neg (by omega),if_neg (by omega),if_neg (by omega),if_pos k12] at hs
  have hs:=of_decide_eq_true hs
  have hl:=last_eq hv.dep.len
  have hsum:a2c l = a2c l.dropLast + Q2 l:=by
   have e:=congrArg a2c hl
   rw [a1y] at e
   simpa [a2c] using e
  have hpd:0 ≤ a2c l.dropLast:=sumI_pos fun x hx=>hv.dep.pos x ((List.dropLast_sublist l).subset hx)
  have hd:=hv.dep.sum
  rw [a16 (by omega) (by omega)]
  omega
 ·rw [if_neg k12]
  omega
theorem done_eq (p:PrA) (i:Nat) (o:OpA) (k:Bk) (l:List Int):(Q6 p i o k l).1.depth = owD o (shD o k.depth)∧(Q6 p i o k l).2 = owL o (shL o l):=by
 unfold Q6 owD shD owL shL
 by_cases k3:o.k = 3
 ·simp [k3]
 by_cases k4:o.k = 4∨o.k = 5
 ·rcases k4 with k4 | k4 <;> simp [k4]
 by_cases k6:o.k = 6
 ·simp [k6]
 by_cases k11:o.k = 11
 ·simp [k11]
 by_cases k12:o.k = 12
 ·simp [k12]
 ·simp [k3,k4,k6,k11,k12]
theorem Iv.step {d0:Int} {os:List OpA} {i:Nat} {k:Bk} {l:List Int} {ns:List ByteArray} {ar:List Ar} (hv:Iv d0 os i k l ns ar) {p:PrA} {o:OpA} (hE:opE p i o k l ar = 0) (ho:os.getD i default = o) (har:ar.length = p.blocks.length) (hi:i ≤ 100000) :
  Iv d0 os (i + 1) (Q6 p i o k l).1 (Q6 p i o k l).2 (shN p o ns) (a2u k l o ar (O3 o)):=by
 obtain ⟨e1,e2,e3,e4,e5,e6⟩:=a0N hE
 obtain ⟨q1,q2,q3⟩:=shL_len hv e3
 obtain ⟨m1,m2,m3,m4,m5⟩:=a3b (p:=p) (i:=i) (k:=k) hv.dep.len (fun h=>(Y2 e3 h).1)
 obtain ⟨d1,d2⟩:=done_eq p i o k l
 have hle:=arGo_le (k:=k) (l:=l) (o:=o) (own_free e4 hv.num0 har)
 have hlen:(Q6 p i o k l).2.length = (shL o l).length:=by rw [d2,owL_len]
 have hop1:=hv.op1
 have hopen:((Q6 p i o k l).1.opened = ((i:Nat):Int)∧(o.k = 3∨o.k = 4∨o.k = 5))∨((Q6 p i o k l).1.opened = k.opened∧¬ (o.k = 3∨o.k = 4∨o.k = 5)):=by
  unfold Q6
  by_cases k3:o.k = 3
  ·rw [if_pos k3]; exact .inl ⟨rfl, .inl k3⟩
  rw [if_neg k3]
  by_cases k4:o.k = 4∨o.k = 5
  ·rw [if_pos k4]; exact .inl ⟨rfl, .inr k4⟩
  rw [if_neg k4]
  refine .inr ⟨?_,by omega⟩
  repeat' split
  all_goals rfl
 refine ⟨hv.dep.done hE,by rw [m4]; exact hv.nest0,by rw [m4,hlen]; exact q3,by rw [m4]; exact hv.loops0,by rw [m4]; exact hv.loops1,?_,?_,by rw [hlen]; exact q1,?_,?_,by rw [m3]; exact hv.num0,by rw [m3,a1R]; exact hv.num1⟩
 ·rcases hopen with ⟨h,_⟩ | ⟨h,_⟩ <;> rw [h] <;> omega
 ·rw [Nat.add_sub_cancel,ho]
  rcases hopen with ⟨h,h'⟩ | ⟨h,h'⟩
  ·rw [h]
   exact ⟨fun _=>⟨by omega,h'⟩,fun _=>⟨by omega,by omega⟩⟩
  ·rw [h]
   exact ⟨fun q=>by omega,fun q=>absurd q.2 h'⟩
 ·intro h1 _
  have h2:o.k = 3∨o.k = 4∨o.k = 5:=by
   rcases hopen with ⟨h,h'⟩ | ⟨h,h'⟩
   ·exact h'
   ·rw [h] at h1; omega
  unfold shN Q6
  by_cases k3:o.k = 3
  ·rw [if_pos k3,if_pos k3]
   refine ⟨by simp,?_⟩
   simp
  ·rw [if_neg k3,if_neg k3,if_pos (by omega),if_pos (by omega)]
   have hop:k.opened = ((i:Nat):Int) - 1∧i ≠ 0:=by
    unfold Q1 at e3
    rw [if_neg k3,if_neg (by omega),if_pos (by omega),a16 (by omega) (by omega)] at e3
    simp only [Bool.not_eq_true',Bool.or_eq_false_iff,Bool.not_eq_false',decide_eq_true_eq,decide_eq_false_iff_not] at e3
    exact ⟨e3.1,e3.2.1⟩
   have hl:=(hv.last hop.1 hop.2).1
   refine ⟨by rw [List.length_set]; exact hl,?_⟩
   rw [List.length_set,List.getD_eq_getElem?_getD,List.getElem?_set_self (by omega)]
   rfl
 ·rw [m3,m4,hle.2 k.num.toNat (.inr (by have:=hv.num0; omega))]
  exact hv.inn
def ArOk (ar:List Ar):Prop:=∀ j,(0 ≤ (a3V ar j).depth∧(a3V ar j).depth ≤ 64)∧(0 ≤ (a3V ar j).nest∧(a3V ar j).nest ≤ 63)∧0 ≤ (a3V ar j).loops∧(a3V ar j).loops ≤ 8
theorem arOk_go {k:Bk} {l:List Int} {o:OpA} (hn:0 ≤ X9 k l∧X9 k l ≤ 63):∀ {bs:List (Int × Int)} {ar:List Ar},ArOk ar→(∀ x ∈ bs,0 ≤ wr (k.depth + x.2)∧wr (k.depth + x.2) ≤ 64)→(bs ≠ []→0 ≤ (a17 k l o 0).loops∧(a17 k l o 0).loops ≤ 8)→ArOk (a2u k l o ar bs):=by
 intro bs
 induction bs with
 | nil=>intro ar h _ _; exact h
 | cons x r ih=>
  intro ar h hd hl
  simp only [a2u]
  refine ih (fun j=>?_) (fun y hy=>hd y (by simp [hy])) (fun _=>hl (by simp))
  by_cases hx:x.1.toNat < ar.length
  ·rw [a2Q hx]
   split
   ·exact ⟨hd x (by simp),hn,hl (by simp)⟩
   ·exact h j
  ·rw [List.set_eq_of_length_le (by omega)]
   exact h j
theorem arOk_step {d0:Int} {os:List OpA} {i:Nat} {k:Bk} {l:List Int} {ns:List ByteArray} {ar:List Ar} (hv:Iv d0 os i k l ns ar) {p:PrA} {o:OpA} (hE:opE p i o k l ar = 0) (h:ArOk ar):ArOk (a2u k l o ar (O3 o)):=by
 have q:=(a3C hv).2
 have h1:=hv.nest0; have h2:=hv.nest1; have h3:=hv.dep.len; have h4:=hv.dep.ge; have h5:=hv.dep.d0; have h6:=hv.loops0; have h7:=hv.loops1
 refine arOk_go (by omega) h (fun x hx=>?_) (fun _=>?_)
 ·obtain ⟨a,b,c⟩:=take_depth hv.dep hE hx
  rw [a]
  omega
 ·obtain ⟨e1,e2,e3,e4,e5,e6⟩:=a0N hE
  show 0 ≤ (if o.k = 9 then wr (k.inn.loops + 1) else k.inn.loops)∧(if o.k = 9 then wr (k.inn.loops + 1) else k.inn.loops) ≤ 8
  by_cases h9:o.k = 9
  ·rw [if_pos h9,a16 (by omega) (by omega)]
   omega
  ·rw [if_neg h9]
   omega
def a1L:List OpA→Int→Nat→Option Nat
 | [],_,_=>none
 | o :: r,c,i=>if (if o.k = 3 then c + 1 else if o.k = 6 then c - 1 else c) = 0 then some i else a1L r (if o.k = 3 then c + 1 else if o.k = 6 then c - 1 else c) (i + 1)
def X5 (os:List OpA):Bool:=
 if os.length = 0 then false
 else if (os.getD 0 default).k = 7 then decide (os.length = 1)
 else if (os.getD 0 default).k ≠ 3 then false
 else match a1L os 0 0 with
  | some i=>decide (i = os.length - 1)
  | none=>false
theorem first_keep {p:PrA}:∀ {os:List OpA} {i:Nat} {k:Bk} {l:List Int} {ar:List Ar},0 ≤ k.first→(S9 p os i k l ar).2.1.first = k.first:=by
 intro os
 induction os with
 | nil=>intro i k l ar h; rfl
 | cons o r ih=>
  intro i k l ar h
  simp only [S9]
  split
  ·have:(Q6 p i o k l).1.first = k.first:=by
    unfold Q6
    repeat' split
    all_goals first | rfl | skip
    rename_i h1
    omega
   rw [ih (by rw [this]; exact h),this]
  ·rfl
theorem open_first {p:PrA}:∀ {os:List OpA} {i:Nat} {k:Bk} {l:List Int} {ar:List Ar},(S9 p os i k l ar).1 = none→k.first < 0→1 < l.length →
  ((S9 p os i k l ar).2.1.first < 0∧a1L os (((l.length:Nat):Int) - 1) i = none)∨∃ j:Nat,(S9 p os i k l ar).2.1.first = ((j:Nat):Int)∧a1L os (((l.length:Nat):Int) - 1) i = some j:=by
 intro os
 induction os with
 | nil=>intro i k l ar _ h _; exact .inl ⟨h,rfl⟩
 | cons o r ih=>
  intro i k l ar hg hf hl
  simp only [S9] at hg ⊢
  by_cases hE:opE p i o k l ar = 0
  ·rw [if_pos hE] at hg ⊢
   obtain ⟨e1,e2,e3,e4,e5,e6⟩:=a0N hE
   have same:∀ (q:Bk × List Int),Q6 p i o k l = q→q.1.first = k.first→q.2.length = l.length→o.k ≠ 3→o.k ≠ 6→((S9 p r (i + 1) (Q6 p i o k l).1 (Q6 p i o k l).2 (a2u k l o ar (O3 o))).2.1.first < 0∧a1L (o :: r) (((l.length:Nat):Int) - 1) i = none)∨∃ j:Nat,(S9 p r (i + 1) (Q6 p i o k l).1 (Q6 p i o k l).2 (a2u k l o ar (O3 o))).2.1.first = ((j:Nat):Int)∧a1L (o :: r) (((l.length:Nat):Int) - 1) i = some j:=by
    intro q hq h1 h2 h3 h6
    rw [hq] at hg ⊢
    have:=ih hg (by rw [h1]; exact hf) (by rw [h2]; exact hl)
    rw [h2] at this
    simp only [a1L]
    rw [if_neg h3,if_neg h6,if_neg (show ¬ ((l.length:Nat):Int) - 1 = 0 by omega)]
    exact this
   by_cases k3:o.k = 3
   ·have hd:Q6 p i o k l = ({ k with opened:=((i:Nat):Int),name:=⟨#[]⟩ },l ++ [0]):=by unfold Q6; rw [if_pos k3]
    rw [hd] at hg ⊢
    have hl1:(l ++ [0]).length = l.length + 1:=by simp
    have:=ih hg hf (by show 1 < (l ++ [0]).length; omega)
    simp only [a1L]
    rw [if_pos k3,if_neg (show ¬ ((l.length:Nat):Int) - 1 + 1 = 0 by omega)]
    rw [show (((({ k with opened:=((i:Nat):Int),name:=⟨#[]⟩ },l ++ [0]):Bk × List Int).2.length:Nat):Int) - 1 = ((l.length:Nat):Int) - 1 + 1 by show (((l ++ [0]).length:Nat):Int) - 1 = _; omega] at this
    exact this
   by_cases k6:o.k = 6
   ·have hd:Q6 p i o k l = ({ k with first:=if l.length = 2∧k.first < 0 then ((i:Nat):Int) else k.first },l.dropLast):=by unfold Q6; rw [if_neg k3,if_neg (by omega),if_pos k6]
    rw [hd] at hg ⊢
    simp only [a1L]
    rw [if_neg k3,if_pos k6]
    by_cases h2:l.length = 2
    ·rw [if_pos (show l.length = 2∧k.first < 0 from ⟨h2,hf⟩)] at hg ⊢
     rw [if_pos (show ((l.length:Nat):Int) - 1 - 1 = 0 by omega)]
     refine .inr ⟨i,?_,rfl⟩
     rw [first_keep (by show (0:Int) ≤ ((i:Nat):Int); omega)]
    ·rw [if_neg (show ¬ (l.length = 2∧k.first < 0) from fun h=>h2 h.1)] at hg ⊢
     rw [if_neg (show ¬ ((l.length:Nat):Int) - 1 - 1 = 0 by omega)]
     have hl1:l.dropLast.length = l.length - 1:=by simp
     have:=ih hg hf (by show 1 < l.dropLast.length; omega)
     have hl3:((l.dropLast.length:Nat):Int) - 1 = ((l.length:Nat):Int) - 1 - 1:=by rw [hl1,Int.ofNat_sub (by omega)]; rfl
     have hl4:(((({ k with first:=k.first },l.dropLast):Bk × List Int).2.length:Nat):Int) - 1 = ((l.length:Nat):Int) - 1 - 1:=hl3
     rw [hl4] at this
     exact this
   by_cases k4:o.k = 4∨o.k = 5
   ·exact same _ (by unfold Q6; rw [if_neg k3,if_pos k4]) rfl rfl k3 k6
   by_cases k11:o.k = 11
   ·exact same _ (by unfold Q6; rw [if_neg k3,if_neg k4,if_neg k6,if_pos k11]) rfl (by simp [setLast]) k3 k6
   by_cases k12:o.k = 12
   ·exact same _ (by unfold Q6; rw [if_neg k3,if_neg k4,if_neg k6,if_neg k11,if_pos k12]) rfl (by simp [setLast]) k3 k6
   exact same _ (by unfold Q6; rw [if_neg k3,if_neg k4,if_neg k6,if_neg k11,if_neg k12]) rfl rfl k3 k6
  ·rw [if_neg hE] at hg
   cases hg
theorem single_same {p:PrA} {b:BlA} {k:Bk} {ar:List Ar} (hg:(S9 p b.ops 0 k [0] ar).1 = none) (hf:k.first = -1) (hb:b.ops.length ≤ 1049000):X5 b.ops = X4 b (S9 p b.ops 0 k [0] ar).2.1.first:=by
 suffices h:∀ f,f = (S9 p b.ops 0 k [0] ar).2.1.first→X5 b.ops = X4 b f from h _ rfl
 intro f hf'
 unfold X5 X4
 cases hos:b.ops with
 | nil=>rfl
 | cons o r=>
  rw [hos] at hg hb hf'
  simp only [List.length_cons] at hb
  have w:wr ((((o :: r).length:Nat):Int) - 1) = ((r.length:Nat):Int):=by
   rw [a16 (by simp <;> omega) (by simp <;> omega)]
   simp
  rw [w]
  simp only [List.length_cons,List.getD_cons_zero]
  rw [if_neg (by omega)]
  by_cases h7:o.k = 7
  ·rw [if_pos h7]
   by_cases hr:r.length + 1 = 1
   ·rw [if_pos hr,O4 h7,O4 hr]
   ·rw [if_neg hr,if_neg (by omega),if_pos (by omega),O0 hr]
  rw [if_neg h7]
  by_cases h3:o.k = 3
  ·rw [if_neg (fun h=>h h3)]
   simp only [S9] at hg hf'
   by_cases hE:opE p 0 o k [0] ar = 0
   ·rw [if_pos hE] at hg hf'
    have hd:Q6 p 0 o k [0] = ({ k with opened:=((0:Nat):Int),name:=⟨#[]⟩ },[0] ++ [0]):=by unfold Q6; rw [if_pos h3]
    rw [hd] at hg hf'
    have h:=open_first hg (by show k.first < 0; omega) (by simp)
    rw [←hf'] at h
    simp only [a1L]
    rw [if_pos h3,if_neg (show ¬ ((0:Int) + 1 = 0) by decide)]
    rw [show ((([0] ++ [0]:List Int).length:Nat):Int) - 1 = 0 + 1 from rfl] at h
    by_cases hr:r.length + 1 = 1
    ·have:r = []:=List.length_eq_zero_iff.1 (by omega)
     subst this
     simp [a1L,h7]
    ·rw [if_neg hr,if_neg (by omega),if_neg (fun h=>h h3)]
     rcases h with ⟨h1,h2⟩ | ⟨j,h1,h2⟩
     ·rw [h2,O0 (by omega)]
     ·rw [h2,h1]
      exact decide_eq_decide.2 (by omega)
   ·rw [if_neg hE] at hg
    cases hg
  ·rw [if_pos h3]
   by_cases hr:r.length + 1 = 1
   ·rw [if_pos hr,O0 h7]
   ·rw [if_neg hr,if_neg (by omega),if_pos h3]
end Go.Proofs.YtcgepgahgihojaaGreatDoor
namespace Go.Proofs.YtcgepgahgihojaaGreatDoor
open Go.St Go.Lib
set_option linter.unusedVariables false
set_option linter.unusedSimpArgs false
theorem ld_part {S:Sto} {id g fz n off:Nat} {cs:List AV} (h:S[id]? = some (.cells g cs fz)) (h1:off + n ≤ cs.length):ld true n S (.mp id g off) = some (.agg ((cs.drop off).take n)):=by
 simp only [ld,V7,h,h1,true_and,if_true,Option.bind_some]
 rfl
theorem rc_ld {S:Sto} {A:Nat} {ar:List Ar} (h:S[A]? = some (.cells 0 (Q8 0 ar) 0)) {i:Nat} (hi:i < ar.length):ld true 5 S (.mp A 0 (i * 5)) = some (.agg (a0y i (ar.getD i default))):=by
 have hl:=rc_len ar 0
 rw [ld_part h (by omega)]
 have:∀ (l:List Ar) (j i:Nat),i < l.length→((Q8 j l).drop (i * 5)).take 5 = a0y (j + i) (l.getD i default):=by
  intro l
  induction l with
  | nil=>intro j i h; simp at h
  | cons a r ih=>
   intro j i hi
   have h5:(a0y j a).length = 5:=rfl
   simp only [Q8]
   cases i with
   | zero=>rw [Nat.zero_mul,List.drop_zero,←h5,List.take_left]; rfl
   | succ i=>
    rw [show (i + 1) * 5 = (a0y j a).length + i * 5 by rw [h5]; omega,List.drop_length_add_append,ih (j + 1) i (by simpa using hi),show j + 1 + i = j + (i + 1) by omega]
    rfl
 rw [this ar 0 i hi,Nat.zero_add]
theorem a46 {os:List OpA} {ov:AV} (ho:a2U os ov) (hl:os.length ≤ 1049000) (S:Sto):∀ (m i:Nat) (c:Int),i + m = os.length→-((i:Nat):Int) ≤ c→c ≤ ((i:Nat):Int) →
  j5.F9 ov c ((i:Nat):Int) S = some ⟨.ret (.bool (match a1L (os.drop i) c i with | some j=>decide (j = os.length - 1) | none=>false)),none,S⟩:=by
 intro m
 induction m with
 | zero=>
  intro i c him _ _
  rw [j5.F9_e]
  refine (br ho.1).trans ?_
  refine (bf (O0 (by omega))).trans ?_
  rw [List.drop_of_length_le (by omega)]
  rfl
 | succ m ih=>
  intro i c him h1 h2
  have hi:i < os.length:=by omega
  have w1:IntKind.wrap .i64 (((i:Nat):Int) + 1) = ((i + 1:Nat):Int):=w64 _ (by omega) (by omega)
  have wl:IntKind.wrap .i64 (((os.length:Nat):Int) - 1) = ((os.length - 1:Nat):Int):=w64 _ (by omega) (by omega)
  have wp:IntKind.wrap .i64 (c + 1) = c + 1:=a16 (by omega) (by omega)
  have wm:IntKind.wrap .i64 (c - 1) = c - 1:=a16 (by omega) (by omega)
  obtain ⟨cs,hia,lv,rfl,hlv⟩:=ho.2.2.2 i hi
  obtain ⟨o,ho'⟩:∃ o,o = os.getD i default:=⟨_,rfl⟩
  have hd:os.drop i = o :: os.drop (i + 1):=by
   rw [List.drop_eq_getElem_cons hi,ho',List.getD_eq_getElem?_getD,List.getElem?_eq_getElem hi]; rfl
  rw [←ho'] at hia
  have z:fa 0 1 (.ip (oc o lv)) = some (.ip [.int .i64 o.k]):=rfl
  have out:∀ c',-((i + 1:Nat):Int) ≤ c'→c' ≤ ((i + 1:Nat):Int)→(if o.k = 3 then c + 1 else if o.k = 6 then c - 1 else c) = c'→j5.K6 ov c' ((i:Nat):Int) S = some ⟨.ret (.bool (match a1L (os.drop i) c i with | some j=>decide (j = os.length - 1) | none=>false)),none,S⟩:=by
   intro c' a b hc
   rw [j5.K6_e,hd]
   simp only [a1L,hc]
   by_cases h0:c' = 0
   ·refine (bt (O4 h0)).trans ?_
    refine (br ho.1).trans ?_
    rw [wl]
    simp only [if_pos h0]
    rw [show decide (((i:Nat):Int) = ((os.length - 1:Nat):Int)) = decide (i = os.length - 1) from decide_eq_decide.2 (by omega)]
   ·refine (bf (O0 h0)).trans ?_
    rw [w1]
    simp only [if_neg h0]
    exact ih (i + 1) c' (by omega) a b
  rw [j5.F9_e]
  refine (br ho.1).trans ?_
  refine (bt (O4 (by omega))).trans ?_
  refine (br hia).trans ?_
  refine (br z).trans ?_
  refine (br (l1 _ _)).trans ?_
  refine (br (aI _)).trans ?_
  by_cases h3:o.k = 3
  ·refine (bt (O4 h3)).trans ?_
   rw [wp,j5.K9_e]
   refine (br hia).trans ?_
   refine (br z).trans ?_
   refine (br (l1 _ _)).trans ?_
   refine (br (aI _)).trans ?_
   refine (bf (O0 (by omega))).trans ?_
   exact out (c + 1) (by omega) (by omega) (if_pos h3)
  ·refine (bf (O0 h3)).trans ?_
   rw [j5.K9_e]
   refine (br hia).trans ?_
   refine (br z).trans ?_
   refine (br (l1 _ _)).trans ?_
   refine (br (aI _)).trans ?_
   by_cases h6:o.k = 6
   ·refine (bt (O4 h6)).trans ?_
    rw [wm]
    exact out (c - 1) (by omega) (by omega) (by rw [if_neg h3,if_pos h6])
   ·refine (bf (O0 h6)).trans ?_
    exact out c (by omega) (by omega) (by rw [if_neg h3,if_neg h6])
theorem a49 {os:List OpA} {ov:AV} (ho:a2U os ov) (hl:os.length ≤ 1049000) (S:Sto):O1 ap 44 [ov] S = some (.ret (.bool (X5 os)),S):=by
 rw [j5.call]
 refine O7 ?_ rfl rfl (O5.refl _ _)
 rw [j5.b_eq]
 refine (br ho.1).trans ?_
 unfold X5
 by_cases h0:os.length = 0
 ·rw [if_pos h0]
  exact bt (O4 (by omega))
 rw [if_neg h0]
 refine (bf (O0 (by omega))).trans ?_
 obtain ⟨cs,hia,lv,rfl,hlv⟩:=ho.2.2.2 0 (by omega)
 have z:fa 0 1 (.ip (oc (os.getD 0 default) lv)) = some (.ip [.int .i64 (os.getD 0 default).k]):=rfl
 refine (br hia).trans ?_
 refine (br z).trans ?_
 refine (br (l1 _ _)).trans ?_
 refine (br (aI _)).trans ?_
 by_cases h7:(os.getD 0 default).k = 7
 ·rw [if_pos h7]
  refine (bt (O4 h7)).trans ?_
  refine (br ho.1).trans ?_
  rw [show decide (((os.length:Nat):Int) = 1) = decide (os.length = 1) from decide_eq_decide.2 (by omega)]
 rw [if_neg h7]
 refine (bf (O0 h7)).trans ?_
 refine (br hia).trans ?_
 refine (br z).trans ?_
 refine (br (l1 _ _)).trans ?_
 refine (br (aI _)).trans ?_
 by_cases h3:(os.getD 0 default).k = 3
 ·rw [if_neg (fun h=>h h3)]
  refine (bf (by rw [O4 h3]; rfl)).trans ?_
  have:=a46 ho hl S os.length 0 0 (by omega) (by omega) (by omega)
  rw [List.drop_zero] at this
  exact this
 ·rw [if_pos h3]
  exact bt (by rw [O0 h3]; rfl)
def Rx.put (r:Rx) (e:Nat × Nat):Rx:=if e.2 = 0 then r else { r with fault:=((e.2:Nat):Int),place:=((e.1:Nat):Int) }
noncomputable def updR (n:Nat):Option Int→List Int→Nat→Rx→Rx
 | _,[],_,r=>r
 | pv,x :: us,i,r=>updR n (some x) us (i + 1) (if badU n pv x = true then r.fail 2207 ((i:Nat):Int) else r)
noncomputable def tailR (b:BlA) (lp:Bool) (nl:Nat) (l0:Int) (r:Rx):Rx:=
 updR b.ops.length none b.upd 0 (if lp = true∧X5 b.ops = false then Rx.fail (if 0 < nl∨0 < l0 then r.fail 2204 ((b.ops.length:Nat):Int) else r) 2206 0 else (if 0 < nl∨0 < l0 then r.fail 2204 ((b.ops.length:Nat):Int) else r))
theorem a1C {r:Rx} (h:r.fault ≠ 0) (e pl:Int):r.fail e pl = r:=by unfold Rx.fail; rw [if_neg h]
theorem T9 {r:Rx} (h:r.fault = 0) (e pl:Int):r.fail e pl = { r with fault:=e,place:=pl }:=by unfold Rx.fail; rw [if_pos h]
theorem a2H (n:Nat):∀ (us:List Int) (pv:Option Int) (i:Nat) (r:Rx),r.fault ≠ 0→updR n pv us i r = r:=by
 intro us
 induction us with
 | nil=>intro pv i r _; rfl
 | cons x us ih=>
  intro pv i r h
  simp only [updR]
  rw [a1C h,ite_self,ih _ _ _ h]
theorem updR_good (n:Nat):∀ (us:List Int) (pv:Option Int) (i:Nat) (r:Rx),r.fault = 0→updR n pv us i r = r.put (updGo n pv us i):=by
 intro us
 induction us with
 | nil=>intro pv i r _; rfl
 | cons x us ih=>
  intro pv i r h
  simp only [updR,updGo]
  by_cases hb:badU n pv x = true
  ·rw [if_pos hb,if_pos hb,T9 h,a2H _ _ _ _ _ (by show (2207:Int) ≠ 0; decide)]
   rfl
  ·rw [if_neg hb,if_neg hb,ih _ _ _ h]
theorem tailR_bad {b:BlA} {lp:Bool} {nl:Nat} {l0:Int} {r:Rx} (h:r.fault ≠ 0):tailR b lp nl l0 r = r:=by
 unfold tailR
 rw [a1C h,ite_self,a1C h,ite_self,a2H _ _ _ _ _ h]
theorem tailR_good {b:BlA} {k:Bk} {nl:Nat} {l:List Int} {r:Rx} (h:r.fault = 0) (hn:nl + 1 = l.length) (hs:X5 b.ops = X4 b k.first):tailR b k.inn.loop nl (l.getD 0 0) r = r.put (endA b k l):=by
 have hc:(0 < nl∨0 < l.getD 0 0) ↔ (1 < l.length∨0 < Q2 l):=by
  by_cases h1:l.length = 1
  ·have e:Q2 l = l.getD 0 0:=by unfold Q2; rw [h1]
   rw [e]
   omega
  ·omega
 unfold tailR endA
 by_cases c:1 < l.length∨0 < Q2 l
 ·rw [if_pos c,if_pos (hc.2 c),T9 h]
  have h':({ r with fault:=2204,place:=((b.ops.length:Nat):Int) }:Rx).fault ≠ 0:=by show (2204:Int) ≠ 0; decide
  rw [a1C h',ite_self,a2H _ _ _ _ _ h']
  rfl
 ·rw [if_neg c,if_neg (fun q=>c (hc.1 q)),hs]
  by_cases d:k.inn.loop = true∧X4 b k.first = false
  ·rw [if_pos d,if_pos d,T9 h,a2H _ _ _ _ _ (by show (2206:Int) ≠ 0; decide)]
   rfl
  ·rw [if_neg d,if_neg d,updR_good _ _ _ _ _ h]
section
variable {p:PrA} {X A L gl t2 t3:Nat} {tx cd sx bl:AV} {r:Rx} {l:List Int} {ns:List ByteArray} {ar:List Ar} {S T:Sto}
theorem a3e {b:BlA} {ov uv:AV} (ho:a2U b.ops ov) (hu:W4 b.upd uv) (hul:b.upd.length ≤ 1050000) (h2X:t2 ≠ X):∀ (m i:Nat) (r:Rx) (T:Sto),i + m = b.upd.length→T[X]? = some (.cells 0 (xc tx cd sx bl r) 0)→T[t2]? = some (.cells 0 [.int .i64 b.depth,ov,uv] 0) →
  b8.J9 (.mp X 0 0) t2 ((i:Nat):Int) T = some ⟨.ret (.tup []),none,T.set X (.cells 0 (xc tx cd sx bl (updR b.ops.length (if i = 0 then none else some (b.upd.getD (i - 1) 0)) (b.upd.drop i) i r)) 0)⟩:=by
 intro m
 induction m with
 | zero=>
  intro i r T him hX h2
  have r2:ld false 1 T (.mp t2 0 2) = some uv:=O8 (n:=2) h2 rfl
  rw [b8.J9_e]
  refine (br r2).trans ?_
  refine (br hu.1).trans ?_
  refine (bf (O0 (by omega))).trans ?_
  rw [List.drop_of_length_le (by omega)]
  show _ = some (⟨.ret (.tup []),none,T.set X (.cells 0 (xc tx cd sx bl r) 0)⟩:Res)
  rw [R1 hX]
 | succ m ih=>
  intro i r T him hX h2
  have hi:i < b.upd.length:=by omega
  have hXl:=(List.getElem?_eq_some_iff.1 hX).1
  have w1:IntKind.wrap .i64 (((i:Nat):Int) + 1) = ((i + 1:Nat):Int):=w64 _ (by omega) (by omega)
  have r2:ld false 1 T (.mp t2 0 2) = some uv:=O8 (n:=2) h2 rfl
  have r1:ld false 1 T (.mp t2 0 1) = some ov:=O8 (n:=1) h2 rfl
  obtain ⟨x,hx⟩:∃ x,x = b.upd.getD i 0:=⟨_,rfl⟩
  have hd:b.upd.drop i = x :: b.upd.drop (i + 1):=by
   rw [List.drop_eq_getElem_cons hi,hx,List.getD_eq_getElem?_getD,List.getElem?_eq_getElem hi]; rfl
  obtain ⟨cs,hia,rfl⟩:=hu.2.2.2 i hi
  rw [←hx] at hia
  have rx:∀ (y:Int),ld false 1 T (.ip [.int .i64 y]) = some (.int .i64 y):=fun _=>rfl
  obtain ⟨pv,hpv⟩:∃ pv,pv = (if i = 0 then none else some (b.upd.getD (i - 1) 0)):=⟨_,rfl⟩
  have out:∀ q,q = badU b.ops.length pv x→b8.I1 (.mp X 0 0) t2 ((i:Nat):Int) q T = some ⟨.ret (.tup []),none,T.set X (.cells 0 (xc tx cd sx bl (updR b.ops.length pv (b.upd.drop i) i r)) 0)⟩:=by
   intro q hq
   have nxt:∀ (r':Rx) (T':Sto),T'[X]? = some (.cells 0 (xc tx cd sx bl r') 0)→T'[t2]? = some (.cells 0 [.int .i64 b.depth,ov,uv] 0)→b8.J8 (.mp X 0 0) t2 ((i:Nat):Int) T' = some ⟨.ret (.tup []),none,T'.set X (.cells 0 (xc tx cd sx bl (updR b.ops.length (some x) (b.upd.drop (i + 1)) (i + 1) r')) 0)⟩:=by
    intro r' T' a c
    have:=ih (i + 1) r' T' (by omega) a c
    rw [if_neg (by omega),Nat.add_sub_cancel,←hx] at this
    rw [b8.J8_e,w1]
    exact this
   rw [b8.I1_e,hd]
   simp only [updR]
   rw [←hq]
   cases q with
   | true=>
    refine (bt rfl).trans ?_
    refine (cr (R2 hX 2207 _)).trans ?_
    rw [nxt (r.fail 2207 ((i:Nat):Int)) _ (List.getElem?_set_self hXl) (by rw [List.getElem?_set_ne h2X.symm]; exact h2),List.set_set]
    rfl
   | false=>
    refine (bf rfl).trans ?_
    exact nxt r T hX h2
  rw [b8.J9_e,←hpv]
  refine (br r2).trans ?_
  refine (br hu.1).trans ?_
  refine (bt (O4 (by omega))).trans ?_
  refine (br r2).trans ?_
  refine (br hia).trans ?_
  refine (br (rx _)).trans ?_
  refine (br r1).trans ?_
  refine (br ho.1).trans ?_
  refine (cr (Z5 _ _ T)).trans ?_
  refine (it rfl).trans ?_
  refine (br (aB _)).trans ?_
  cases hn:a0h x ((b.ops.length:Nat):Int) with
  | false=>
   refine (bt rfl).trans ?_
   exact out true (by unfold badU; rw [hn]; rfl)
  | true=>
   refine (bf rfl).trans ?_
   by_cases h0:i = 0
   ·refine (bf (O0 (by omega))).trans ?_
    exact out false (by unfold badU; rw [hn,hpv,if_pos h0]; rfl)
   ·refine (bt (O4 (by omega))).trans ?_
    have wi:IntKind.wrap .i64 (((i:Nat):Int) - 1) = ((i - 1:Nat):Int):=w64 _ (by omega) (by omega)
    obtain ⟨ds,hib,rfl⟩:=hu.2.2.2 (i - 1) (by omega)
    refine (br r2).trans ?_
    rw [wi]
    refine (br hib).trans ?_
    refine (br (rx _)).trans ?_
    refine (br r2).trans ?_
    refine (br hia).trans ?_
    refine (br (rx _)).trans ?_
    refine (br (aI _)).trans ?_
    refine (br (aI _)).trans ?_
    exact out _ (by unfold badU; rw [hn,hpv,if_neg h0]; rfl)
theorem one_tail (hN:RN X A L gl tx cd sx bl r l ns ar T) (hl0:0 < l.length) {b:BlA} {ov uv:AV} (h2:T[t2]? = some (.cells 0 [.int .i64 b.depth,ov,uv] 0)) {a:Ar} {j:Nat} (h3:T[t3]? = some (.cells 0 (a0y j a) 0)) (ho:a2U b.ops ov) (hol:b.ops.length ≤ 1049000) (hu:W4 b.upd uv) (hul:b.upd.length ≤ 1050000) (h2X:t2 ≠ X) (h3X:t3 ≠ X) :
  b8.J6 (.mp X 0 0) t2 t3 false T = some ⟨.ret (.tup []),none,T.set X (.cells 0 (xc tx cd sx bl (tailR b a.loop ns.length (l.getD 0 0) r)) 0)⟩:=by
 have hXl:=(List.getElem?_eq_some_iff.1 hN.hX).1
 obtain ⟨jl,hL⟩:=hN.hL
 have r0:ld false 1 T (.mp L gl 0) = some (.int .i64 (l.getD 0 0)):=by
  refine O8 (n:=0) hL ?_
  rw [List.getElem?_append_left (by simp [O6]; exact hl0)]
  unfold O6
  rw [List.getElem?_map,List.getD_eq_getElem?_getD,List.getElem?_eq_getElem hl0]
  rfl
 have upd:∀ (r':Rx) (q:Bool) (T':Sto),q = decide (a.loop = true∧X5 b.ops = false)→T'[X]? = some (.cells 0 (xc tx cd sx bl r') 0)→T'[t2]? = some (.cells 0 [.int .i64 b.depth,ov,uv] 0) →
   b8.L7 (.mp X 0 0) t2 q T' = some ⟨.ret (.tup []),none,T'.set X (.cells 0 (xc tx cd sx bl (updR b.ops.length none b.upd 0 (if a.loop = true∧X5 b.ops = false then r'.fail 2206 0 else r'))) 0)⟩:=by
  intro r' q T' hq hX' h2'
  have hXl':=(List.getElem?_eq_some_iff.1 hX').1
  rw [b8.L7_e]
  by_cases c:a.loop = true∧X5 b.ops = false
  ·rw [O4 c] at hq
   subst hq
   rw [if_pos c]
   refine (bt rfl).trans ?_
   refine (cr (R2 hX' 2206 0)).trans ?_
   rw [b8.M3_e]
   have:=a3e (X:=X) (t2:=t2) (tx:=tx) (cd:=cd) (sx:=sx) (bl:=bl) ho hu hul h2X b.upd.length 0 (r'.fail 2206 0) (T'.set X (.cells 0 (xc tx cd sx bl (r'.fail 2206 0)) 0)) (by omega) (List.getElem?_set_self hXl') (by rw [List.getElem?_set_ne h2X.symm]; exact h2')
   rw [if_pos rfl,List.drop_zero,List.set_set] at this
   exact this
  ·rw [O0 c] at hq
   subst hq
   rw [if_neg c]
   refine (bf rfl).trans ?_
   rw [b8.M3_e]
   have:=a3e (X:=X) (t2:=t2) (tx:=tx) (cd:=cd) (sx:=sx) (bl:=bl) ho hu hul h2X b.upd.length 0 r' T' (by omega) hX' h2'
   rw [if_pos rfl,List.drop_zero] at this
   exact this
 have lp:∀ (r':Rx) (T':Sto),T'[X]? = some (.cells 0 (xc tx cd sx bl r') 0)→T'[t2]? = some (.cells 0 [.int .i64 b.depth,ov,uv] 0)→T'[t3]? = some (.cells 0 (a0y j a) 0) →
   b8.N2 (.mp X 0 0) t2 t3 T' = some ⟨.ret (.tup []),none,T'.set X (.cells 0 (xc tx cd sx bl (updR b.ops.length none b.upd 0 (if a.loop = true∧X5 b.ops = false then r'.fail 2206 0 else r'))) 0)⟩:=by
  intro r' T' hX' h2' h3'
  have q4:ld false 1 T' (.mp t3 0 4) = some (.bool a.loop):=O8 (n:=4) h3' rfl
  have q1:ld false 1 T' (.mp t2 0 1) = some ov:=O8 (n:=1) h2' rfl
  rw [b8.N2_e]
  refine (br q4).trans ?_
  refine (br (gB _)).trans ?_
  refine gs.trans ?_
  cases hlp:a.loop with
  | true=>
   refine (bt rfl).trans ?_
   refine (br q1).trans ?_
   refine (cr (a49 ho hol T')).trans ?_
   refine (br (aB _)).trans ?_
   have:=upd r' (!X5 b.ops) T' (by rw [hlp]; cases X5 b.ops <;> simp) hX' h2'
   rw [hlp] at this
   exact this
  | false=>
   refine (bf rfl).trans ?_
   have:=upd r' false T' (by rw [hlp]; simp) hX' h2'
   rw [hlp] at this
   exact this
 have shp:∀ q,q = decide (0 < ns.length∨0 < l.getD 0 0)→b8.M2 (.mp X 0 0) t2 t3 q T = some ⟨.ret (.tup []),none,T.set X (.cells 0 (xc tx cd sx bl (tailR b a.loop ns.length (l.getD 0 0) r)) 0)⟩:=by
  intro q hq
  unfold tailR
  rw [b8.M2_e]
  by_cases c:0 < ns.length∨0 < l.getD 0 0
  ·rw [O4 c] at hq
   subst hq
   rw [if_pos c]
   refine (bt rfl).trans ?_
   refine (br (show ld false 1 T (.mp t2 0 1) = some ov from O8 (n:=1) h2 rfl)).trans ?_
   refine (br ho.1).trans ?_
   refine (cr (R2 hN.hX 2204 _)).trans ?_
   rw [lp (r.fail 2204 ((b.ops.length:Nat):Int)) _ (List.getElem?_set_self hXl) (by rw [List.getElem?_set_ne h2X.symm]; exact h2) (by rw [List.getElem?_set_ne h3X.symm]; exact h3),List.set_set]
  ·rw [O0 c] at hq
   subst hq
   rw [if_neg c]
   refine (bf rfl).trans ?_
   exact lp r T hN.hX h2 h3
 rw [b8.J6_e]
 refine (bf rfl).trans ?_
 refine (rdM hN.hX (k:=11) rfl).trans ?_
 refine (br hN.nlen).trans ?_
 by_cases c:0 < ns.length
 ·refine (bt (O4 (by omega))).trans ?_
  exact shp true (O4 (.inl c)).symm
 ·refine (bf (O0 (by omega))).trans ?_
  refine (rdM hN.hX (k:=10) rfl).trans ?_
  rw [hN.hlv]
  refine (br (ia_ms hl0)).trans ?_
  refine (br r0).trans ?_
  refine (br (aI _)).trans ?_
  exact shp _ (decide_eq_decide.2 ⟨fun h => .inr h,fun h=>h.elim (fun h=>absurd h c) id⟩)
def Put (X:Nat) (tx cd sx bl:AV) (r:Rx) (S:Sto) (e:Nat × Nat) (x:Option Res):Prop:=x = some ⟨.ret (.tup []),none,S.set X (.cells 0 (xc tx cd sx bl (r.put e)) 0)⟩
theorem Put.via {x y:Option Res} {e:Nat × Nat} (h:x = y) (k:Put X tx cd sx bl r S e y):Put X tx cd sx bl r S e x:=h.trans k
theorem refStat_loop (hX:S[X]? = some (.cells 0 (xc tx cd sx bl r) 0)) (hrf:r.fault = 0) (h2:S[t2]? = some (.cells 0 [tx,cd,sx,bl] 0)) (hS:FoM p.statics sx) (hz:p.statics.sz ≤ 1050000) (hm:∀ row n m,sx = .is row n (.cut m)→n ≤ m):∀ (m i:Nat),i + m = p.statics.len→Put X tx cd sx bl r S (statA p m i) (c8.N6 (.mp X 0 0) t2 ((i:Nat):Int) S):=by
 have hsl:=a1b p.statics
 have r2:ld false 1 S (.mp t2 0 2) = some sx:=O8 (n:=2) h2 rfl
 intro m
 induction m with
 | zero=>
  intro i him
  rw [c8.N6_e]
  refine Put.via (br r2) ?_
  refine Put.via (br hS.fov.len) ?_
  refine Put.via (bf (O0 (by omega))) ?_
  show _ = some (⟨.ret (.tup []),none,S.set X (.cells 0 (xc tx cd sx bl r) 0)⟩:Res)
  rw [R1 hX]
 | succ m ih=>
  intro i him
  have hi:i < p.statics.len:=by omega
  have w1:IntKind.wrap .i64 (((i:Nat):Int) + 1) = ((i + 1:Nat):Int):=w64 _ (by omega) (by omega)
  obtain ⟨tag,text,a,kd,hia,htag,hac,hkc,hac2,hkc2,hfo⟩:=stat_at hS hi
  have out:∀ q,q = a0m p i→Put X tx cd sx bl r S (statA p (m + 1) i) (c8.L2 (.mp X 0 0) t2 ((i:Nat):Int) q S):=by
   intro q hq
   rw [c8.L2_e]
   unfold statA
   simp only [Y3]
   rw [←hq]
   cases q with
   | true=>
    refine Put.via (bt rfl) ?_
    refine Put.via (cr (R2 hX 2202 _)) ?_
    rw [T9 hrf]
    rfl
   | false=>
    refine Put.via (bf rfl) ?_
    rw [w1]
    exact ih (i + 1) (by omega)
  rw [c8.N6_e]
  refine Put.via (br r2) ?_
  refine Put.via (br hS.fov.len) ?_
  refine Put.via (bt (O4 (by omega))) ?_
  by_cases h1:4096 ≤ i
  ·refine Put.via (bt (O4 (by omega))) ?_
   exact out true (by unfold a0m; rw [O4 h1]; rfl)
  refine Put.via (bf (O0 (by omega))) ?_
  refine Put.via (br r2) ?_
  refine Put.via (br hia) ?_
  refine Put.via (br (show fa 0 1 (.ip [.str tag, .str text,a,kd]) = some (.ip [.str tag]) from rfl)) ?_
  refine Put.via (br (show ld false 1 S (.ip [.str tag]) = some (.str tag) from rfl)) ?_
  refine Put.via (br (aS _)) ?_
  by_cases h3:tag = ⟨#[]⟩
  ·refine Put.via (bt (O4 h3)) ?_
   exact out true (by unfold a0m; rw [htag,O0 h1,O4 h3]; rfl)
  refine Put.via (bf (O0 h3)) ?_
  obtain ⟨v,hcut,hfo2⟩:=one_tree hS hi hz hm
  have hnl:=a28 p.statics i hi
  refine Put.via (br r2) ?_
  rw [w1]
  refine Put.via (br hcut) ?_
  refine Put.via (cr (a1H hfo2 (by omega) S)) ?_
  refine Put.via (br (aI _)) ?_
  refine out _ ?_
  unfold a0m
  rw [htag,O0 h1,O0 h3,Bool.false_or,Bool.false_or]
  congr 1
  exact decide_eq_decide.2 (by omega)
theorem refCodes_loop (hX:S[X]? = some (.cells 0 (xc tx cd sx bl r) 0)) (hrf:r.fault = 0) (h2:S[t2]? = some (.cells 0 [tx,cd,sx,bl] 0)) (hs:W2 p) (hT:TxV p.texts tx) (hC:CdV p.codes cd) (hS:FoM p.statics sx) (hm:∀ row n m,sx = .is row n (.cut m)→n ≤ m):∀ (m i:Nat),i + m = p.codes.length→Put X tx cd sx bl r S (codeA p m i) (c8.F0 (.mp X 0 0) t2 ((i:Nat):Int) S):=by
 have hsc:=hs.c
 have r0:ld false 1 S (.mp t2 0 0) = some tx:=O8 (n:=0) h2 rfl
 have r1:ld false 1 S (.mp t2 0 1) = some cd:=O8 (n:=1) h2 rfl
 intro m
 induction m with
 | zero=>
  intro i him
  rw [c8.F0_e]
  refine Put.via (br r1) ?_
  refine Put.via (br hC.1) ?_
  refine Put.via (bf (O0 (by omega))) ?_
  exact refStat_loop hX hrf h2 hS hs.s hm p.statics.len 0 (by omega)
 | succ m ih=>
  intro i him
  have hi:i < p.codes.length:=by omega
  have w1:IntKind.wrap .i64 (((i:Nat):Int) + 1) = ((i + 1:Nat):Int):=w64 _ (by omega) (by omega)
  obtain ⟨ds,hia,cw,rfl,hcw⟩:=hC.2.2.2 i hi
  have out:∀ q,q = a1j p i→Put X tx cd sx bl r S (codeA p (m + 1) i) (c8.H2 (.mp X 0 0) t2 ((i:Nat):Int) q S):=by
   intro q hq
   rw [c8.H2_e]
   unfold codeA
   simp only [Y3]
   rw [←hq]
   cases q with
   | true=>
    refine Put.via (bt rfl) ?_
    refine Put.via (cr (R2 hX 2201 _)) ?_
    rw [T9 hrf]
    rfl
   | false=>
    refine Put.via (bf rfl) ?_
    rw [w1]
    exact ih (i + 1) (by omega)
  rw [c8.F0_e]
  refine Put.via (br r1) ?_
  refine Put.via (br hC.1) ?_
  refine Put.via (bt (O4 (by omega))) ?_
  by_cases h1:8192 ≤ i
  ·refine Put.via (bt (O4 (by omega))) ?_
   exact out true (by unfold a1j; rw [O4 h1]; rfl)
  refine Put.via (bf (O0 (by omega))) ?_
  obtain ⟨e,e1,e2⟩:=a2p hcw ((p.texts.length:Nat):Int) 64 S
  refine Put.via (br r1) ?_
  refine Put.via (br hia) ?_
  refine Put.via (br (show ld false 1 S (.ip [cw]) = some cw from rfl)) ?_
  refine Put.via (br r0) ?_
  refine Put.via (br hT.1) ?_
  refine Put.via (cr e1) ?_
  refine Put.via (it rfl) ?_
  refine Put.via (br (aI _)) ?_
  refine out _ ?_
  unfold a1j
  rw [O0 h1,Bool.false_or]
  congr 1
  exact decide_eq_decide.2 e2
theorem refTexts_loop (hX:S[X]? = some (.cells 0 (xc tx cd sx bl r) 0)) (hrf:r.fault = 0) (h2:S[t2]? = some (.cells 0 [tx,cd,sx,bl] 0)) (hs:W2 p) (hT:TxV p.texts tx) (hC:CdV p.codes cd) (hS:FoM p.statics sx) (hm:∀ row n m,sx = .is row n (.cut m)→n ≤ m):∀ (m i:Nat),i + m = p.texts.length→Put X tx cd sx bl r S (textA p m i) (c8.F4 (.mp X 0 0) t2 ((i:Nat):Int) S):=by
 have hst:=hs.t
 have r0:ld false 1 S (.mp t2 0 0) = some tx:=O8 (n:=0) h2 rfl
 intro m
 induction m with
 | zero=>
  intro i him
  rw [c8.F4_e]
  refine Put.via (br r0) ?_
  refine Put.via (br hT.1) ?_
  refine Put.via (bf (O0 (by omega))) ?_
  exact refCodes_loop hX hrf h2 hs hT hC hS hm p.codes.length 0 (by omega)
 | succ m ih=>
  intro i him
  have hi:i < p.texts.length:=by omega
  have w1:IntKind.wrap .i64 (((i:Nat):Int) + 1) = ((i + 1:Nat):Int):=w64 _ (by omega) (by omega)
  obtain ⟨ds,hia,rfl⟩:=hT.2.2.2 i hi
  have out:∀ q,q = a1q p i→Put X tx cd sx bl r S (textA p (m + 1) i) (c8.M8 (.mp X 0 0) t2 ((i:Nat):Int) q S):=by
   intro q hq
   rw [c8.M8_e]
   unfold textA
   simp only [Y3]
   rw [←hq]
   cases q with
   | true=>
    refine Put.via (bt rfl) ?_
    refine Put.via (cr (R2 hX 2200 _)) ?_
    rw [T9 hrf]
    rfl
   | false=>
    refine Put.via (bf rfl) ?_
    rw [w1]
    exact ih (i + 1) (by omega)
  rw [c8.F4_e]
  refine Put.via (br r0) ?_
  refine Put.via (br hT.1) ?_
  refine Put.via (bt (O4 (by omega))) ?_
  by_cases h1:16384 ≤ i
  ·refine Put.via (bt (O4 (by omega))) ?_
   exact out true (by unfold a1q; rw [O4 h1]; rfl)
  refine Put.via (bf (O0 (by omega))) ?_
  refine Put.via (br r0) ?_
  refine Put.via (br hia) ?_
  refine Put.via (br (show ld false 1 S (.ip [.str (p.texts.getD i ⟨#[]⟩)]) = some (.str (p.texts.getD i ⟨#[]⟩)) from rfl)) ?_
  refine Put.via (cr (a3A _ (by have:=hs.ts i; omega) S)) ?_
  refine Put.via (br (aB _)) ?_
  exact out _ (by unfold a1q; rw [O0 h1,Bool.false_or])
theorem refLists_spec (hX:S[X]? = some (.cells 0 (xc tx cd sx bl r) 0)) (hrf:r.fault = 0) (hs:W2 p) (hT:TxV p.texts tx) (hC:CdV p.codes cd) (hS:FoM p.statics sx) (hm:∀ row n m,sx = .is row n (.cut m)→n ≤ m) (hall:([tx,cd,sx,bl]).all AV.isCell = true) :
  O1 ap 18 [.mp X 0 0] S = some (.ret (.tup []),(S ++ [Ob.cells 0 [tx,cd,sx,bl] 0]).set X (.cells 0 (xc tx cd sx bl (r.put (Y4 p))) 0)):=by
 have hb:c8.b (.mp X 0 0) S = some ⟨.ret (.tup []),none,(S ++ [Ob.cells 0 [tx,cd,sx,bl] 0]).set X (.cells 0 (xc tx cd sx bl (r.put (Y4 p))) 0)⟩:=by
  rw [c8.b_eq]
  refine (br (show O2 (.mp X 0 0) = some (.mp X 0 0) from rfl)).trans ?_
  refine (br (show fa 0 4 (.mp X 0 0) = some (.mp X 0 0) from rfl)).trans ?_
  refine (br (ld_part (n:=4) hX (by show 0 + 4 ≤ 12; omega))).trans ?_
  refine (br (a3P (cs:=[.nils, .nils, .nils, .nils]) (cs':=[tx,cd,sx,bl]) hall rfl rfl)).trans ?_
  exact refTexts_loop (t2:=S.length) (P8 hX) hrf P6 hs hT hC hS hm p.texts.length 0 (by omega)
 rw [c8.call,hb]
 rfl
end
end Go.Proofs.YtcgepgahgihojaaGreatDoor
namespace Go.Proofs.YtcgepgahgihojaaGreatDoor
open Go.St Go.Lib
set_option linter.unusedVariables false
set_option linter.unusedSimpArgs false
def Mx (X A n0:Nat) (j:Nat):Prop:=j = X∨j = A∨n0 + 2 ≤ j
structure LK (n0 X A L gl:Nat) (tx cd sx bl:AV) (cs cs3:List AV) (r:Rx) (l:List Int) (ns:List ByteArray) (ar:List Ar) (T:Sto):Prop where
 hN:RN X A L gl tx cd sx bl r l ns ar T
 h2:T[n0]? = some (.cells 0 cs 0)
 h3:T[n0 + 1]? = some (.cells 0 cs3 0)
 nX:X < n0
 nA:A < n0
 nL:n0 + 2 ≤ L
 nN:∀ j,Ref r.nv j→n0 + 2 ≤ j
def R9 (n0 X A:Nat) (tx cd sx bl:AV) (r:Rx) (S:Sto) (e:Nat × Nat) (ar':List Ar) (x:Option Res):Prop:=
 ∃ S' r',x = some ⟨.ret (.tup []),none,S'⟩∧Frm (Mx X A n0) S S'∧S'[X]? = some (.cells 0 (xc tx cd sx bl r') 0)∧r'.inn = r.inn∧r'.blk = r.blk ∧
  (e.2 = 0→r'.fault = 0∧S'[A]? = some (.cells 0 (Q8 0 ar') 0))∧(e.2 ≠ 0→r'.fault = ((e.2:Nat):Int)∧r'.place = ((e.1:Nat):Int))
section
variable {n0 X A L gl:Nat} {tx cd sx bl:AV} {r:Rx} {l:List Int} {ns:List ByteArray} {ar:List Ar} {S T:Sto} {p:PrA}
theorem R9.via {x y:Option Res} {e:Nat × Nat} {ar':List Ar} (h:x = y) (k:R9 n0 X A tx cd sx bl r S e ar' y):R9 n0 X A tx cd sx bl r S e ar' x:=by rw [h]; exact k
theorem R9.from {r1:Rx} {x:Option Res} {e:Nat × Nat} {ar':List Ar} (k:R9 n0 X A tx cd sx bl r1 T e ar' x) (hF:Frm (Mx X A n0) S T) (h1:r1.inn = r.inn) (h2:r1.blk = r.blk):R9 n0 X A tx cd sx bl r S e ar' x:=by
 obtain ⟨S',r',a,b,c,d,e,f,g⟩:=k
 exact ⟨S',r',a,hF.trans b,c,d.trans h1,e.trans h2,f,g⟩
theorem put_same (r:Rx) (e:Nat × Nat):(r.put e).inn = r.inn∧(r.put e).blk = r.blk:=by unfold Rx.put; split <;> exact ⟨rfl,rfl⟩
theorem act_of {c:Option (Out × Sto)} {o:Out} {s:Sto} (h:(c.bind fun x=>some (⟨x.1,none,x.2⟩:Res)) = some ⟨o,none,s⟩):c = some (o,s):=by
 cases c with
 | none=>cases h
 | some x=>
  obtain ⟨a,b⟩:=x
  simp only [Option.bind_some,Option.some.injEq,Res.mk.injEq,true_and] at h
  rw [h.1,h.2]
theorem a34 {cs3:List AV} {b:BlA} {ov uv:AV} {a:Ar} {j0:Nat} (h:LK n0 X A L gl tx cd sx bl [.int .i64 b.depth,ov,uv] (a0y j0 a) r l ns ar T) (hf:r.fault ≠ 0) (hl0:0 < l.length) (ho:a2U b.ops ov) (hol:b.ops.length ≤ 1049000) (hu:W4 b.upd uv) (hul:b.upd.length ≤ 1050000) :
  b8.G4 (.mp X 0 0) n0 (n0 + 1) T = some ⟨.ret (.tup []),none,T⟩:=by
 have hX:=h.nX
 have htl:=one_tail (t2:=n0) (t3:=n0 + 1) h.hN hl0 h.h2 h.h3 ho hol hu hul (by omega) (by omega)
 rw [tailR_bad hf,R1 h.hN.hX] at htl
 have r1:ld false 1 T (.mp n0 0 1) = some ov:=O8 (n:=1) h.h2 rfl
 rw [b8.G4_e]
 refine (rdM h.hN.hX (k:=8) rfl).trans ?_
 refine (br r1).trans ?_
 refine (br ho.1).trans ?_
 refine (br (aI _)).trans ?_
 by_cases c:r.at_ < ((b.ops.length:Nat):Int)
 ·refine (bt (O4 c)).trans ?_
  refine (rdM h.hN.hX (k:=7) rfl).trans ?_
  refine (br (aI _)).trans ?_
  rw [O0 hf]
  exact htl
 ·refine (bf (O0 c)).trans ?_
  exact htl
theorem opE_own {p:PrA} {i:Nat} {o:OpA} {k:Bk} {l:List Int} {ar:List Ar} (h1:Y6 p i o = true) (h2:(P7 o).all (a14 p k) = true) (h3:Q1 p k l i o = true):opE p i o k l ar = ownE k p ar o:=by
 unfold opE ownE
 rw [if_neg (by rw [h1]; simp),if_neg (by rw [h2]; simp),if_neg (by rw [h3]; simp)]
theorem one_ops (hs:W2 p) (hT:TxV p.texts tx) (hC:CdV p.codes cd) (hS:FoM p.statics sx) (hB:a3W p.blocks bl) (hm:∀ row n m,sx = .is row n (.cut m)→n ≤ m) {b:BlA} {ov uv:AV} (ho:a2U b.ops ov) (hol:b.ops.length ≤ 1049000) (hll:∀ j,(b.ops.getD j default).l.length ≤ 1050000) (hu:W4 b.upd uv) (hul:b.upd.length ≤ 1050000) {a:Ar} {d0:Int} {j0:Nat} {W:Option (Nat × Nat) × Bk × List Int × List Ar} (hsin:W.1 = none→X5 b.ops = X4 b W.2.1.first) :
  ∀ (m i:Nat) (k:Bk) (l:List Int) (ns:List ByteArray) (ar:List Ar) (r:Rx) (gl:Nat) (T:Sto),i + m = b.ops.length→LK n0 X A L gl tx cd sx bl [.int .i64 b.depth,ov,uv] (a0y j0 a) r l ns ar T→Iv d0 b.ops i k l ns ar→r.fault = 0→r.at_ = ((i:Nat):Int)→r.blk = k.num→r.dep = k.depth→ar.length = p.blocks.length→a.loop = k.inn.loop→b = p.blocks.getD k.num.toNat default→W = S9 p (b.ops.drop i) i k l ar →
   R9 n0 X A tx cd sx bl r T (match W.1 with | some e=>e | none=>endA b W.2.1 W.2.2.1) W.2.2.2 (b8.G4 (.mp X 0 0) n0 (n0 + 1) T):=by
 intro m
 induction m with
 | zero=>
  intro i k l ns ar r gl T him h hv hrf hra hrb hrd har hlp hbk hW
  have hX:=h.nX
  have hA:=h.nA
  rw [List.drop_of_length_le (by omega)] at hW
  simp only [S9] at hW
  subst hW
  have htl:=one_tail (t2:=n0) (t3:=n0 + 1) h.hN hv.dep.len h.h2 h.h3 ho hol hu hul (by omega) (by omega)
  rw [hlp,tailR_good hrf hv.len (hsin rfl)] at htl
  have r1:ld false 1 T (.mp n0 0 1) = some ov:=O8 (n:=1) h.h2 rfl
  have hXl:=(List.getElem?_eq_some_iff.1 h.hN.hX).1
  rw [b8.G4_e]
  refine R9.via (rdM h.hN.hX (k:=8) rfl) ?_
  refine R9.via (br r1) ?_
  refine R9.via (br ho.1) ?_
  refine R9.via (br (aI _)) ?_
  refine R9.via (bf (O0 (by omega))) ?_
  refine ⟨_,_,htl,Frm.set (.inl rfl),List.getElem?_set_self hXl,(put_same r _).1,(put_same r _).2,fun he=>?_,fun he=>?_⟩
  ·have hp:r.put (endA b k l) = r:=by unfold Rx.put; rw [if_pos he]
   rw [hp,R1 h.hN.hX]
   exact ⟨hrf,h.hN.hA⟩
  ·show (r.put (endA b k l)).fault = _∧(r.put (endA b k l)).place = _
   unfold Rx.put
   rw [if_neg he]
   exact ⟨rfl,rfl⟩
 | succ m ih=>
  intro i k l ns ar r gl T him h hv hrf hra hrb hrd har hlp hbk hW
  have hX:=h.nX
  have hA:=h.nA
  have hi:i < b.ops.length:=by omega
  have w1:IntKind.wrap .i64 (((i:Nat):Int) + 1) = ((i + 1:Nat):Int):=w64 _ (by omega) (by omega)
  obtain ⟨cs,hia,lv,rfl,hlv⟩:=ho.2.2.2 i hi
  have hlo:=hll i
  obtain ⟨o,ho'⟩:∃ o,o = b.ops.getD i default:=⟨_,rfl⟩
  have hd:b.ops.drop i = o :: b.ops.drop (i + 1):=by
   rw [List.drop_eq_getElem_cons hi,ho',List.getD_eq_getElem?_getD,List.getElem?_eq_getElem hi]; rfl
  rw [←ho'] at hia hlv hlo
  have hra':(xc tx cd sx bl r)[8]? = some (.int .i64 ((i:Nat):Int)):=by
   show some (AV.int .i64 r.at_) = _
   rw [hra]
  have n2l:=(List.getElem?_eq_some_iff.1 h.h3).1
  have hall:(oc o lv).all AV.isCell = true:=by
   simp only [oc,List.all_cons,List.all_nil,hlv.2.1,Bool.and_true]
   rfl
  obtain ⟨T2,hT2⟩:∃ T2,T2 = T ++ [Ob.cells 0 (oc o lv) 0]:=⟨_,rfl⟩
  have hT2l:T2.length = T.length + 1:=by rw [hT2]; simp
  have hN2:RN X A L gl tx cd sx bl r l ns ar T2:=by rw [hT2]; exact h.hN.app _
  have hXl2:=(List.getElem?_eq_some_iff.1 hN2.hX).1
  have hF2:Frm (Mx X A n0) T T2:=by rw [hT2]; exact Frm.app
  have r5:ld true 5 T2 (.mp T.length 0 0) = some (.agg (oc o lv)):=Z7 (g:=0) (fz:=0) (by rw [hT2]; exact P6) rfl
  have r1:ld false 1 T (.mp n0 0 1) = some ov:=O8 (n:=1) h.h2 rfl
  have stop:∀ (e:Nat) (T':Sto) (r':Rx) (x:Option Res),opE p i o k l ar = e→e ≠ 0→x = some ⟨.ret (.tup []),none,T'⟩→Frm (Mx X A n0) T T'→T'[X]? = some (.cells 0 (xc tx cd sx bl r') 0)→r'.inn = r.inn→r'.blk = r.blk→r'.fault = ((e:Nat):Int)→r'.place = ((i:Nat):Int)→R9 n0 X A tx cd sx bl r T (match W.1 with | some e=>e | none=>endA b W.2.1 W.2.2.1) W.2.2.2 x:=by
   intro e T' r' x hE he hx hF hX' h1 h2 h3 h4
   have hW':W = (some (i,e),k,l,ar):=by
    rw [hW,hd]
    simp only [S9]
    rw [hE,if_neg he]
   rw [hW']
   exact ⟨T',r',hx,hF,hX',h1,h2,fun h=>absurd h he,fun _=>⟨h3,h4⟩⟩
  rw [b8.G4_e]
  refine R9.via (rdM h.hN.hX (k:=8) hra') ?_
  refine R9.via (br r1) ?_
  refine R9.via (br ho.1) ?_
  refine R9.via (br (aI _)) ?_
  refine R9.via (bt (O4 (by omega))) ?_
  refine R9.via (rdM h.hN.hX (k:=7) rfl) ?_
  refine R9.via (br (aI _)) ?_
  rw [O4 hrf,b8.J6_e]
  refine R9.via (bt rfl) ?_
  refine R9.via (br r1) ?_
  refine R9.via (rdM h.hN.hX (k:=8) hra') ?_
  refine R9.via (br hia) ?_
  refine R9.via (br (show ld true 5 T (.ip (oc o lv)) = some (.agg (oc o lv)) from rfl)) ?_
  refine R9.via (br (show ld true 5 (T ++ [Ob.cells 0 [.int .i64 0, .int .i64 0, .int .i64 0, .int .i64 0, .nils] 0]) (.ip (oc o lv)) = some (.agg (oc o lv)) from rfl)) ?_
  refine R9.via (it rfl) ?_
  refine R9.via (br (O8 (n:=8) (P8 h.hN.hX) hra')) ?_
  refine R9.via (it rfl) ?_
  refine R9.via (br (O8 (n:=1) (P8 h.h2) rfl)) ?_
  refine R9.via (it rfl) ?_
  refine R9.via (br (a3P (cs:=[.int .i64 0, .int .i64 0, .int .i64 0, .int .i64 0, .nils]) (cs':=oc o lv) hall rfl rfl)) ?_
  rw [←hT2]
  refine R9.via (br r5) ?_
  refine R9.via (cr (refOp_spec hN2.hX hT hC hS hs.ts hlv hlo i hra)) ?_
  refine R9.via (br (aB _)) ?_
  rcases Q4 (Y6 p i o) with hf | hf
  ·refine R9.via (bt (by rw [hf]; rfl)) ?_
   refine R9.via (rdM hN2.hX (k:=8) hra') ?_
   refine R9.via (cr (R2 hN2.hX 2203 _)) ?_
   rw [T9 hrf]
   exact stop 2203 _ _ _ (by unfold opE; rw [if_pos hf]) (by decide) rfl (hF2.trans (Frm.set (.inl rfl))) (List.getElem?_set_self hXl2) rfl rfl rfl rfl
  refine R9.via (bf (by rw [hf]; rfl)) ?_
  obtain ⟨g1,g2,g3,g4⟩:=a0X hf
  refine R9.via (br r5) ?_
  refine R9.via (cr (refCodeX_spec hN2.hX hT hC hlv hlo g1 hrd)) ?_
  refine R9.via (br (aB _)) ?_
  rcases Q4 ((P7 o).all (a14 p k)) with hc | hc
  ·refine R9.via (bt (by rw [hc]; rfl)) ?_
   refine R9.via (rdM hN2.hX (k:=8) hra') ?_
   refine R9.via (cr (R2 hN2.hX 2201 _)) ?_
   rw [T9 hrf]
   exact stop 2201 _ _ _ (by unfold opE; rw [if_neg (by rw [hf]; simp),if_pos hc]) (by decide) rfl (hF2.trans (Frm.set (.inl rfl))) (List.getElem?_set_self hXl2) rfl rfl rfl rfl
  refine R9.via (bf (by rw [hc]; rfl)) ?_
  refine R9.via (br r5) ?_
  obtain ⟨T3,rr,gl1,e1,e2,e3,e4,e5,e6⟩:=shapeX_spec hN2 hv hT hB hS hs.s hm (by rw [←hbk]) har hrb hra hi (by omega) hlv hf
  have e1':=act_of e1
  have ea:rr.at_ = r.at_:=by have q:=congrArg Rx.at_ e4; exact q
  have ef:rr.fault = r.fault:=by have q:=congrArg Rx.fault e4; exact q
  have hn1:rr.inn = r.inn:=by have q:=congrArg Rx.inn e4; exact q
  have hn2:rr.blk = r.blk:=by have q:=congrArg Rx.blk e4; exact q
  have hra1:(xc tx cd sx bl rr)[8]? = some (.int .i64 ((i:Nat):Int)):=by
   show some (AV.int .i64 rr.at_) = _
   rw [ea,hra]
  have hMs:∀ j,Ms X r j→Mx X A n0 j:=fun j hj=>by
   rcases hj with hj | ⟨_,_,_,_,hj⟩ | hj
   ·exact .inl hj
   ·rw [h.hN.hlv] at hj
    cases hj
    exact .inr (.inr h.nL)
   ·exact .inr (.inr (h.nN j hj))
  have hF3:Frm (Mx X A n0) T T3:=hF2.trans (e2.weak hMs)
  have hn3:rr.fault = 0:=ef.trans hrf
  refine R9.via (cr e1') ?_
  refine R9.via (br (aB _)) ?_
  rcases Q4 (Q1 p k l i o) with hsh | hsh
  ·have hN3:=e6 hsh
   have hXl3:=(List.getElem?_eq_some_iff.1 hN3.hX).1
   refine R9.via (bt (by rw [hsh]; rfl)) ?_
   refine R9.via (rdM hN3.hX (k:=8) hra1) ?_
   refine R9.via (cr (R2 hN3.hX 2204 _)) ?_
   rw [T9 hn3]
   exact stop 2204 _ _ _ (by unfold opE; rw [if_neg (by rw [hf]; simp),if_neg (by rw [hc]; simp),if_pos hsh]) (by decide) rfl (hF3.trans (Frm.set (.inl rfl))) (List.getElem?_set_self hXl3) hn1 hn2 rfl rfl
  obtain ⟨d3,hN3⟩:=e5 hsh
  refine R9.via (bf (by rw [hsh]; rfl)) ?_
  have hTl:¬ Ms X r T.length:=by
   rintro (hj | ⟨_,_,_,_,hj⟩ | hj)
   ·omega
   ·rw [h.hN.hlv] at hj
    cases hj
    obtain ⟨_,hq⟩:=h.hN.hL
    have:=(List.getElem?_eq_some_iff.1 hq).1
    omega
   ·rcases h.hN.hN with ⟨_,q⟩ | ⟨N,g,junk,q1,q2,_⟩
    ·obtain ⟨_,_,_,_,hj⟩:=hj
     rw [q] at hj
     cases hj
    ·obtain ⟨_,_,_,_,hj⟩:=hj
     rw [q1] at hj
     cases hj
     have:=(List.getElem?_eq_some_iff.1 q2).1
     omega
  have r53:ld true 5 T3 (.mp T.length 0 0) = some (.agg (oc o lv)):=Z7 (g:=0) (fz:=0) (e2.at_ _ _ (by rw [hT2]; exact P6) hTl) rfl
  refine R9.via (br r53) ?_
  obtain ⟨s1,s2,s3⟩:=shL_len hv hsh
  have hne0:=hv.nest0; have hnu0:=hv.num0; have hnu1:=hv.num1; have hlen:=hv.len
  have hAl3:=(List.getElem?_eq_some_iff.1 hN3.hA).1
  obtain ⟨T4,r2,l4,f1,f2,f3,f4,f5,f6⟩:=own_spec (k:=k) (l:=l) hN3 hlv hB.1 har hnu0 hnu1 (hn2.trans hrb) hn3 hv.inn ⟨hv.loops0,hv.loops1⟩ (by rw [d3,hrd]; exact shD_rng hv hf hsh) (fun hq=>by
   refine ⟨?_,?_,?_⟩
   ·rw [d3,hrd]; unfold shD; rw [if_neg (by omega)]
   ·have:shN p o ns = ns:=by unfold shN; rw [if_neg (by omega),if_neg (by omega),if_neg (by omega)]
    rw [this]; exact hlen
   ·have:shN p o ns = ns:=by unfold shN; rw [if_neg (by omega),if_neg (by omega),if_neg (by omega)]
    rw [this]; exact (a3C hv).1) s2 (by omega) hAl3
  have f1':=act_of f1
  have fa4:r2.at_ = rr.at_:=by have q:=congrArg Rx.at_ f3; exact q
  have fb4:r2.nv = rr.nv:=by have q:=congrArg Rx.nv f3; exact q
  have fc4:r2.inn = rr.inn:=by have q:=congrArg Rx.inn f3; exact q
  have fd4:r2.blk = rr.blk:=by have q:=congrArg Rx.blk f3; exact q
  have hF4:Frm (Mx X A n0) T T4:=hF3.trans (f2.weak fun j hj=>by
   rcases hj with hj | hj | ⟨_,_,_,_,hj⟩
   ·exact .inl hj
   ·exact .inr (.inl hj)
   ·rw [hN3.hlv] at hj
    cases hj
    exact .inr (.inr h.nL))
  have hra2:(xc tx cd sx bl r2)[8]? = some (.int .i64 ((i:Nat):Int)):=by
   show some (AV.int .i64 r2.at_) = _
   rw [fa4,ea,hra]
  have hX4:T4[X]? = some (.cells 0 (xc tx cd sx bl r2) 0):=by
   by_cases hz:ownE k p ar o = 0
   ·exact (f5 hz).2.2.2.hX
   ·exact (f6 hz).2.2.hX
  have hn4:r2.inn = r.inn:=fc4.trans hn1
  have hn5:r2.blk = r.blk:=fd4.trans hn2
  refine R9.via (cr f1') ?_
  refine R9.via (rdM hX4 (k:=8) hra2) ?_
  refine R9.via (br (aI _)) ?_
  rw [w1]
  refine R9.via (wrM hX4 (by show 8 < 12; omega) rfl rfl) ?_
  obtain ⟨r5',hr5⟩:∃ r5':Rx,r5' = { r2 with at_:=((i + 1:Nat):Int) }:=⟨_,rfl⟩
  have hset:(xc tx cd sx bl r2).set 8 (.int .i64 ((i + 1:Nat):Int)) = xc tx cd sx bl r5':=by rw [hr5]; rfl
  rw [hset]
  obtain ⟨T5,hT5⟩:∃ T5,T5 = T4.set X (.cells 0 (xc tx cd sx bl r5') 0):=⟨_,rfl⟩
  have hF5:Frm (Mx X A n0) T T5:=hF4.trans (by rw [hT5]; exact Frm.set (.inl rfl))
  rw [←hT5]
  have nM0:¬ Mx X A n0 n0:=by unfold Mx; omega
  have nM1:¬ Mx X A n0 (n0 + 1):=by unfold Mx; omega
  have mk:∀ {gl' l' ns' ar'},RN X A L gl' tx cd sx bl r2 l' ns' ar' T4→LK n0 X A L gl' tx cd sx bl [.int .i64 b.depth,ov,uv] (a0y j0 a) r5' l' ns' ar' T5:=fun hq=>
   ⟨by rw [hT5]; exact hq.setX (by rw [hr5]) (by rw [hr5]) (by rw [hr5]),hF5.at_ _ _ h.h2 nM0,hF5.at_ _ _ h.h3 nM1,hX,hA,h.nL,fun j hj=>by
    have:r5'.nv = rr.nv:=by rw [hr5]; exact fb4
    rw [this] at hj
    rcases e3 j hj with hj | hj
    ·exact h.nN j hj
    ·omega⟩
  by_cases hz:ownE k p ar o = 0
  ·obtain ⟨v1,v2,v3,v4⟩:=f5 hz
   have hE:opE p i o k l ar = 0:=(opE_own hf hc hsh).trans hz
   obtain ⟨q1,q2⟩:=done_eq p i o k l
   obtain ⟨m1,m2,m3,m4,m5⟩:=a3b (p:=p) (i:=i) (k:=k) hv.dep.len (fun h=>(Y2 hsh h).1)
   have hL5:=mk v4
   rw [←q2] at hL5
   have:=ih (i + 1) (Q6 p i o k l).1 (Q6 p i o k l).2 (shN p o ns) (a2u k l o ar (O3 o)) r5' gl1 T5 (by omega) hL5 (hv.step hE ho'.symm har (by omega)) (by rw [hr5]; exact v1) (by rw [hr5]) (by rw [hr5,m3]; exact hn5.trans hrb) (by rw [hr5,q1,←hrd,←d3]; exact v3) (by rw [a1R]; exact har) (by rw [m4]; exact hlp) (by rw [m3]; exact hbk) (by
    rw [hW,hd]
    simp only [S9]
    rw [if_pos hE])
   exact this.from hF5 (by rw [hr5]; exact hn4) (by rw [hr5]; exact hn5)
  ·obtain ⟨v1,v2,v3⟩:=f6 hz
   have hE:opE p i o k l ar = ownE k p ar o:=opE_own hf hc hsh
   have hL5:=mk v3
   have hft:r5'.fault ≠ 0:=by rw [hr5]; show r2.fault ≠ 0; rw [v1]; omega
   have hl4:0 < l4.length:=by rw [f4]; exact s2
   have:=a34 (cs3:=[]) hL5 hft hl4 ho hol hu hul
   exact stop _ T5 r5' _ hE hz this hF5 hL5.hN.hX (by rw [hr5]; exact hn4) (by rw [hr5]; exact hn5) (by rw [hr5]; exact v1) (by
    rw [hr5]
    show r2.place = _
    rw [v2,ea,hra])
end
end Go.Proofs.YtcgepgahgihojaaGreatDoor
namespace Go.Proofs.YtcgepgahgihojaaGreatDoor
open Go.St Go.Lib
set_option linter.unusedVariables false
set_option linter.unusedSimpArgs false
theorem arOk_at {ar:List Ar} (h:ArOk ar) (i:Nat):(0 ≤ (ar.getD i default).depth∧(ar.getD i default).depth ≤ 64)∧(0 ≤ (ar.getD i default).nest∧(ar.getD i default).nest ≤ 63)∧0 ≤ (ar.getD i default).loops∧(ar.getD i default).loops ≤ 8:=h i
theorem Iv.begin {ar:List Ar} (hok:ArOk ar) {i:Nat} (hi:i < ar.length) (os:List OpA) (bp:AV):Iv (ar.getD i default).depth os 0 (a0J i bp (ar.getD i default)) [0] [] ar:=by
 obtain ⟨⟨a1,a2⟩,⟨a3,a4⟩,a5,a6⟩:=arOk_at hok i
 refine ⟨⟨?_,?_,a1,a2,by simp⟩,a3,?_,a5,a6,?_,?_,rfl,?_,?_,?_,?_⟩
 ·show (ar.getD i default).depth = (ar.getD i default).depth + a2c [0]
  simp [a2c]
 ·intro x hx
  have:x = 0:=by simpa using hx
  omega
 ·show (ar.getD i default).nest + 1 ≤ 64
  omega
 ·show (-2:Int) < 0
  decide
 ·exact ⟨fun h=>absurd rfl h.2,fun h=>absurd rfl h.1⟩
 ·intro _ h
  exact absurd rfl h
 ·show a3V ar ((i:Nat):Int).toNat = ar.getD i default
  rw [Int.toNat_natCast]
  rfl
 ·show (0:Int) ≤ ((i:Nat):Int)
  omega
 ·show ((i:Nat):Int) < _
  omega
theorem opsGo_ok {p:PrA} {d0:Int} {os:List OpA}:∀ (m i:Nat) (k:Bk) (l:List Int) (ns:List ByteArray) (ar:List Ar),i + m = os.length→Iv d0 os i k l ns ar→ar.length = p.blocks.length→ArOk ar→ArOk (S9 p (os.drop i) i k l ar).2.2.2:=by
 intro m
 induction m with
 | zero=>
  intro i k l ns ar him hv har hok
  rw [List.drop_of_length_le (by omega)]
  exact hok
 | succ m ih=>
  intro i k l ns ar him hv har hok
  have hi:i < os.length:=by omega
  obtain ⟨o,ho⟩:∃ o,o = os.getD i default:=⟨_,rfl⟩
  have hd:os.drop i = o :: os.drop (i + 1):=by
   rw [List.drop_eq_getElem_cons hi,ho,List.getD_eq_getElem?_getD,List.getElem?_eq_getElem hi]; rfl
  rw [hd]
  simp only [S9]
  by_cases hE:opE p i o k l ar = 0
  ·rw [if_pos hE]
   have h8:=(a0X (a0N hE).1).2.2.2
   exact ih (i + 1) _ _ _ _ (by omega) (hv.step hE ho.symm har (by omega)) (by rw [a1R]; exact har) (arOk_step hv hE hok)
  ·rw [if_neg hE]
   exact hok
theorem look_okA {p:PrA} {ar:List Ar} (hok:ArOk ar) {i:Nat} (hi:i < ar.length) (har:ar.length = p.blocks.length) (b:BlA) (bp:AV):ArOk (V8 p b (a0J i bp (ar.getD i default)) [0] ar).2:=by
 have:=opsGo_ok (p:=p) b.ops.length 0 _ _ _ ar (by omega) (Iv.begin hok hi b.ops bp) har hok
 rw [List.drop_zero] at this
 unfold V8
 split
 ·exact hok
 ·split
  ·exact hok
  ·split <;> exact this
section
variable {n0 X A:Nat} {tx cd sx bl:AV} {r:Rx} {ar:List Ar} {S T:Sto} {p:PrA}
theorem one_start (hX:T[X]? = some (.cells 0 (xc tx cd sx bl r) 0)) (hA:T[A]? = some (.cells 0 (Q8 0 ar) 0)) (hI:r.inn = .ms A 0 0 ar.length 5) (hXA:X ≠ A) (hXn:X < n0) (hAn:A < n0) {cs:List AV} {a:Ar} {j0:Nat} (h2:T[n0]? = some (.cells 0 cs 0)) (h3:T[n0 + 1]? = some (.cells 0 (a0y j0 a) 0)) (hl:n0 + 2 ≤ T.length) :
  ∃ T5 r5,b8.F8 (.mp X 0 0) n0 (n0 + 1) T = b8.G4 (.mp X 0 0) n0 (n0 + 1) T5∧LK n0 X A T.length 0 tx cd sx bl cs (a0y j0 a) r5 [0] [] ar T5∧Frm (Mx X A n0) T T5∧r5.inn = r.inn∧r5.blk = r.blk∧r5.fault = r.fault∧r5.place = r.place∧r5.dep = a.depth∧r5.at_ = 0:=by
 obtain ⟨U1,hU1⟩:∃ U1,U1 = T.set X (.cells 0 (xc tx cd sx bl { r with dep:=a.depth }) 0):=⟨_,rfl⟩
 have hXl:=(List.getElem?_eq_some_iff.1 hX).1
 have hAl:=(List.getElem?_eq_some_iff.1 hA).1
 have hX1:U1[X]? = some (.cells 0 (xc tx cd sx bl { r with dep:=a.depth }) 0):=by rw [hU1]; exact List.getElem?_set_self hXl
 have hU1l:U1.length = T.length:=by rw [hU1]; simp
 obtain ⟨U2,hU2⟩:∃ U2,U2 = U1 ++ [Ob.cells 0 [.int .i64 0] 0]:=⟨_,rfl⟩
 have hlit:(S8 true 1 1 (O9 (fun i=>some (i * 1,1)) [.int .i64 0] [(0,(.int .i64 0))]) U1) = some (.ms T.length 0 0 1 1,U2):=by
  have:(O9 (fun i=>some (i * 1,1)) [.int .i64 0] [(0,(.int .i64 0))]) = some [.int .i64 0]:=rfl
  rw [this,←hU1l,hU2]
  simp [S8]
 have hX2:U2[X]? = some (.cells 0 (xc tx cd sx bl { r with dep:=a.depth }) 0):=by rw [hU2]; exact P8 hX1
 have hXl2:=(List.getElem?_eq_some_iff.1 hX2).1
 obtain ⟨U3,hU3⟩:∃ U3,U3 = U2.set X (.cells 0 (xc tx cd sx bl { r with dep:=a.depth,lv := .ms T.length 0 0 1 1 }) 0):=⟨_,rfl⟩
 have hX3:U3[X]? = some (.cells 0 (xc tx cd sx bl { r with dep:=a.depth,lv := .ms T.length 0 0 1 1 }) 0):=by rw [hU3]; exact List.getElem?_set_self hXl2
 have hXl3:=(List.getElem?_eq_some_iff.1 hX3).1
 obtain ⟨U4,hU4⟩:∃ U4,U4 = U3.set X (.cells 0 (xc tx cd sx bl { r with dep:=a.depth,lv := .ms T.length 0 0 1 1,nv := .nils }) 0):=⟨_,rfl⟩
 have hX4:U4[X]? = some (.cells 0 (xc tx cd sx bl { r with dep:=a.depth,lv := .ms T.length 0 0 1 1,nv := .nils }) 0):=by rw [hU4]; exact List.getElem?_set_self hXl3
 have hXl4:=(List.getElem?_eq_some_iff.1 hX4).1
 obtain ⟨U5,hU5⟩:∃ U5,U5 = U4.set X (.cells 0 (xc tx cd sx bl { r with dep:=a.depth,lv := .ms T.length 0 0 1 1,nv := .nils,at_:=0 }) 0):=⟨_,rfl⟩
 have hX5:U5[X]? = some (.cells 0 (xc tx cd sx bl { r with dep:=a.depth,lv := .ms T.length 0 0 1 1,nv := .nils,at_:=0 }) 0):=by rw [hU5]; exact List.getElem?_set_self hXl4
 have keep:∀ (j:Nat) (o:Ob),j ≠ X→T[j]? = some o→U5[j]? = some o:=fun j o hj ho=>by
  rw [hU5,List.getElem?_set_ne hj.symm,hU4,List.getElem?_set_ne hj.symm,hU3,List.getElem?_set_ne hj.symm,hU2]
  refine P8 ?_
  rw [hU1,List.getElem?_set_ne hj.symm]
  exact ho
 have hLo:U5[T.length]? = some (.cells 0 [.int .i64 0] 0):=by
  rw [hU5,List.getElem?_set_ne (by omega),hU4,List.getElem?_set_ne (by omega),hU3,List.getElem?_set_ne (by omega),hU2,←hU1l]
  exact P6
 refine ⟨U5,{ r with dep:=a.depth,lv := .ms T.length 0 0 1 1,nv := .nils,at_:=0 },?_,⟨⟨hX5,keep A _ hXA.symm hA,hI,rfl,⟨[],by simpa [O6] using hLo⟩, .inl ⟨rfl,rfl⟩,hXA,by omega,by omega⟩,keep n0 _ (by omega) h2,keep (n0 + 1) _ (by omega) h3,hXn,hAn,hl,fun j hj=>?_⟩,⟨by rw [hU5,hU4,hU3,hU2,hU1]; simp,fun j o ho hj=>keep j o (fun e=>hj (.inl e)) ho⟩,rfl,rfl,rfl,rfl,rfl,rfl⟩
 ·rw [b8.F8_e]
  refine (br (show ld false 1 T (.mp (n0 + 1) 0 0) = some (.int .i64 a.depth) from O8 (n:=0) h3 rfl)).trans ?_
  refine (wrM hX (by show 9 < 12; omega) rfl rfl).trans ?_
  rw [show T.set X (.cells 0 ((xc tx cd sx bl r).set 9 (.int .i64 a.depth)) 0) = U1 from hU1.symm]
  refine (br hlit).trans ?_
  refine (wrM hX2 (by show 10 < 12; omega) rfl rfl).trans ?_
  rw [show U2.set X (.cells 0 ((xc tx cd sx bl { r with dep:=a.depth }).set 10 (.ms T.length 0 0 1 1)) 0) = U3 from hU3.symm]
  refine (wrM hX3 (by show 11 < 12; omega) rfl rfl).trans ?_
  rw [show U3.set X (.cells 0 ((xc tx cd sx bl { r with dep:=a.depth,lv := .ms T.length 0 0 1 1 }).set 11 .nils) 0) = U4 from hU4.symm]
  refine (wrM hX4 (by show 8 < 12; omega) rfl rfl).trans ?_
  rw [show U4.set X (.cells 0 ((xc tx cd sx bl { r with dep:=a.depth,lv := .ms T.length 0 0 1 1,nv := .nils }).set 8 (.int .i64 0)) 0) = U5 from hU5.symm]
 ·obtain ⟨_,_,_,_,hj⟩:=hj
  cases hj
theorem refOne_spec (hs:W2 p) (hT:TxV p.texts tx) (hC:CdV p.codes cd) (hS:FoM p.statics sx) (hB:a3W p.blocks bl) (hm:∀ row n m,sx = .is row n (.cut m)→n ≤ m) (hX:S[X]? = some (.cells 0 (xc tx cd sx bl r) 0)) (hA:S[A]? = some (.cells 0 (Q8 0 ar) 0)) (hI:r.inn = .ms A 0 0 ar.length 5) (hXA:X ≠ A) (har:ar.length = p.blocks.length) {i:Nat} (hi:i < p.blocks.length) (hrb:r.blk = ((i:Nat):Int)) (hrf:r.fault = 0) (hok:ArOk ar) :
  R9 S.length X A tx cd sx bl r S (V8 p (p.blocks.getD i default) (a0J i .nilp (ar.getD i default)) [0] ar).1 (V8 p (p.blocks.getD i default) (a0J i .nilp (ar.getD i default)) [0] ar).2 ((O1 ap 20 [.mp X 0 0] S).bind fun x=>some ⟨x.1,none,x.2⟩):=by
 have hXn:=(List.getElem?_eq_some_iff.1 hX).1
 have hAn:=(List.getElem?_eq_some_iff.1 hA).1
 obtain ⟨b,hb⟩:∃ b,b = p.blocks.getD i default:=⟨_,rfl⟩
 obtain ⟨a,ha⟩:∃ a,a = ar.getD i default:=⟨_,rfl⟩
 obtain ⟨cs,hib,ov,uv,hcs,hov,huv⟩:=hB.2.2.2 i hi
 have ho1:=(hs.o i).1
 have hu1:=(hs.o i).2
 have hll:=hs.l i
 rw [←hb] at hcs hov huv ho1 hu1 hll ⊢
 rw [←ha]
 subst hcs
 have hb5:(xc tx cd sx bl r)[5]? = some (.int .i64 ((i:Nat):Int)):=by
  show some (AV.int .i64 r.blk) = _
  rw [hrb]
 have hb4:(xc tx cd sx bl r)[4]? = some (.ms A 0 0 ar.length 5):=by
  show some r.inn = _
  rw [hI]
 have hiv:i < ar.length:=by omega
 have hall:([AV.int .i64 b.depth,ov,uv]).all AV.isCell = true:=by
  simp only [List.all_cons,List.all_nil,hov.2.1,huv.2.1,Bool.and_true]
  rfl
 obtain ⟨S1,hS1⟩:∃ S1,S1 = S ++ [Ob.cells 0 [.int .i64 b.depth,ov,uv] 0]:=⟨_,rfl⟩
 have hl1:S1.length = S.length + 1:=by rw [hS1]; simp
 have hX1:S1[X]? = some (.cells 0 (xc tx cd sx bl r) 0):=by rw [hS1]; exact P8 hX
 have hA1:S1[A]? = some (.cells 0 (Q8 0 ar) 0):=by rw [hS1]; exact P8 hA
 obtain ⟨S2,hS2⟩:∃ S2,S2 = S1 ++ [Ob.cells 0 (a0y i a) 0]:=⟨_,rfl⟩
 have hl2:S2.length = S.length + 2:=by rw [hS2]; simp [hl1]
 have hX2:S2[X]? = some (.cells 0 (xc tx cd sx bl r) 0):=by rw [hS2]; exact P8 hX1
 have hA2:S2[A]? = some (.cells 0 (Q8 0 ar) 0):=by rw [hS2]; exact P8 hA1
 have h22:S2[S.length]? = some (.cells 0 [.int .i64 b.depth,ov,uv] 0):=by rw [hS2]; exact P8 (by rw [hS1]; exact P6)
 have h23:S2[S.length + 1]? = some (.cells 0 (a0y i a) 0):=by rw [hS2,←hl1]; exact P6
 have hF2:Frm (Mx X A S.length) S S2:=by rw [hS2,hS1]; exact Frm.app.trans Frm.app
 have hXl2:=(List.getElem?_eq_some_iff.1 hX2).1
 have nM0:¬ Mx X A S.length S.length:=by unfold Mx; omega
 have nM1:¬ Mx X A S.length (S.length + 1):=by unfold Mx; omega
 have gd:∀ (x y:AV) (U:Sto),ld false 1 U x = some y→ld false 1 U x = some y:=fun _ _ _ h=>h
 have flt:∀ (r':Rx) (T':Sto) (e:Nat × Nat),r'.fault = ((e.2:Nat):Int)→e.2 ≠ 0→r'.place = ((e.1:Nat):Int)→r'.inn = r.inn→r'.blk = r.blk→T'[X]? = some (.cells 0 (xc tx cd sx bl r') 0)→T'[A]? = some (.cells 0 (Q8 0 ar) 0)→T'[S.length]? = some (.cells 0 [.int .i64 b.depth,ov,uv] 0)→T'[S.length + 1]? = some (.cells 0 (a0y i a) 0)→Frm (Mx X A S.length) S T' →
   R9 S.length X A tx cd sx bl r S e ar (b8.F8 (.mp X 0 0) S.length (S.length + 1) T'):=by
  intro r' T' e h1 h2 h3 h4 h5 h6 h7 h8 h9 h10
  have hlT:=(List.getElem?_eq_some_iff.1 h9).1
  obtain ⟨T5,r5,k1,k2,k3,k4,k5,k6,k7,k8,k9⟩:=one_start h6 h7 (h4.trans hI) hXA hXn hAn h8 h9 (by omega)
  have hft:r5.fault ≠ 0:=by rw [k6,h1]; omega
  have:=a34 (cs3:=[]) k2 hft (by simp) hov ho1 huv hu1
  exact ⟨T5,r5,k1.trans this,h10.trans k3,k2.hN.hX,k4.trans h4,k5.trans h5,fun h=>absurd h h2,fun _=>⟨k6.trans h1,k7.trans h3⟩⟩
 have dep:∀ (r':Rx) (T':Sto),T'[X]? = some (.cells 0 (xc tx cd sx bl r') 0)→T'[S.length]? = some (.cells 0 [.int .i64 b.depth,ov,uv] 0)→T'[S.length + 1]? = some (.cells 0 (a0y i a) 0) →
   b8.I9 (.mp X 0 0) S.length (S.length + 1) T' = if b.depth = a.depth then b8.F8 (.mp X 0 0) S.length (S.length + 1) T' else b8.F8 (.mp X 0 0) S.length (S.length + 1) (T'.set X (.cells 0 (xc tx cd sx bl (r'.fail 2208 0)) 0)):=by
  intro r' T' h1 h2 h3
  rw [b8.I9_e]
  refine (br (gd _ _ _ (O8 (n:=0) h2 rfl))).trans ?_
  refine (br (gd _ _ _ (O8 (n:=0) h3 rfl))).trans ?_
  refine (br (aI _)).trans ?_
  refine (br (aI _)).trans ?_
  by_cases c:b.depth = a.depth
  ·rw [if_pos c]
   exact bf (by rw [O4 c]; rfl)
  ·rw [if_neg c]
   refine (bt (by rw [O0 c]; rfl)).trans ?_
   exact cr (R2 h1 2208 0)
 suffices hbody:R9 S.length X A tx cd sx bl r S (V8 p b (a0J i .nilp a) [0] ar).1 (V8 p b (a0J i .nilp a) [0] ar).2 (b8.b (.mp X 0 0) S) by
  obtain ⟨S',r',e1,e2⟩:=hbody
  refine ⟨S',r',?_,e2⟩
  rw [b8.call,e1]
  rfl
 have hown:(0 < (a0J i .nilp a).num∧(a0J i .nilp a).inn.owned = false) ↔ (a.owned || decide (i = 0)) = false:=by
  show (0 < ((i:Nat):Int)∧a.owned = false) ↔ _
  cases a.owned <;> simp <;> omega
 rw [b8.b_eq]
 refine R9.via (rdI hX (j:=0) (k:=3) rfl) ?_
 refine R9.via (rdM hX (k:=5) hb5) ?_
 refine R9.via (br hib) ?_
 refine R9.via (br (show ld true 3 S (.ip [.int .i64 b.depth,ov,uv]) = some (.agg [.int .i64 b.depth,ov,uv]) from rfl)) ?_
 refine R9.via (br (show ld true 3 (S ++ [Ob.cells 0 [.int .i64 0, .nils, .nils] 0]) (.ip [.int .i64 b.depth,ov,uv]) = some (.agg [.int .i64 b.depth,ov,uv]) from rfl)) ?_
 refine R9.via (it rfl) ?_
 refine R9.via (br (O8 (n:=5) (P8 hX) hb5)) ?_
 refine R9.via (it rfl) ?_
 refine R9.via (br (O8 (n:=3) (P8 hX) rfl)) ?_
 refine R9.via (it rfl) ?_
 refine R9.via (br (a3P (cs:=[.int .i64 0, .nils, .nils]) (cs':=[.int .i64 b.depth,ov,uv]) hall rfl rfl)) ?_
 rw [←hS1]
 refine R9.via (rdM hX1 (k:=4) hb4) ?_
 refine R9.via (rdM hX1 (k:=5) hb5) ?_
 refine R9.via (br (ia_ar hiv)) ?_
 refine R9.via (br (rc_ld hA1 hiv)) ?_
 refine R9.via (br (rc_ld (P8 hA1) hiv)) ?_
 refine R9.via (it rfl) ?_
 refine R9.via (br (O8 (n:=5) (P8 hX1) hb5)) ?_
 refine R9.via (it rfl) ?_
 refine R9.via (br (O8 (n:=4) (P8 hX1) hb4)) ?_
 refine R9.via (it rfl) ?_
 rw [←ha]
 refine R9.via (br (a3P (cs:=[.int .i64 0, .int .i64 0, .int .i64 0, .bool false, .bool false]) (cs':=a0y i a) rfl rfl rfl)) ?_
 rw [←hS2,hl1]
 refine R9.via (br (gd _ _ _ (O8 (n:=3) h23 rfl))) ?_
 refine R9.via (br (aB _)) ?_
 rcases Q4 (a.owned || decide (i = 0)) with hw | hw
 ·-- nobody owns it
  have hlk:V8 p b (a0J i .nilp a) [0] ar = ((0,2205),ar):=by unfold V8; rw [if_pos (hown.2 hw)]
  rw [hlk]
  refine R9.via (bt (by rw [hw]; rfl)) ?_
  refine R9.via (cr (R2 hX2 2205 0)) ?_
  rw [T9 hrf]
  obtain ⟨r',hr'⟩:∃ r':Rx,r' = { r with fault:=2205,place:=0 }:=⟨_,rfl⟩
  rw [←hr']
  obtain ⟨T',hT'⟩:∃ T',T' = S2.set X (.cells 0 (xc tx cd sx bl r') 0):=⟨_,rfl⟩
  rw [←hT']
  have q1:T'[X]? = some (.cells 0 (xc tx cd sx bl r') 0):=by rw [hT']; exact List.getElem?_set_self hXl2
  have q2:T'[S.length]? = some (.cells 0 [.int .i64 b.depth,ov,uv] 0):=by rw [hT',List.getElem?_set_ne (by omega)]; exact h22
  have q3:T'[S.length + 1]? = some (.cells 0 (a0y i a) 0):=by rw [hT',List.getElem?_set_ne (by omega)]; exact h23
  have q4:T'[A]? = some (.cells 0 (Q8 0 ar) 0):=by rw [hT',List.getElem?_set_ne hXA]; exact hA2
  have q5:Frm (Mx X A S.length) S T':=hF2.trans (by rw [hT']; exact Frm.set (.inl rfl))
  rw [dep r' T' q1 q2 q3]
  have hfr:r'.fault ≠ 0:=by rw [hr']; show (2205:Int) ≠ 0; decide
  split
  ·exact flt r' T' (0,2205) (by rw [hr']; rfl) (by decide) (by rw [hr']; rfl) (by rw [hr']) (by rw [hr']) q1 q4 q2 q3 q5
  ·rw [a1C hfr,R1 q1]
   exact flt r' T' (0,2205) (by rw [hr']; rfl) (by decide) (by rw [hr']; rfl) (by rw [hr']) (by rw [hr']) q1 q4 q2 q3 q5
 ·refine R9.via (bf (by rw [hw]; rfl)) ?_
  have hno:¬ (0 < (a0J i .nilp a).num∧(a0J i .nilp a).inn.owned = false):=fun h=>by
   have:=hown.1 h
   rw [hw] at this
   cases this
  rw [dep r S2 hX2 h22 h23]
  unfold V8
  rw [if_neg hno]
  by_cases c:b.depth = a.depth
  ·rw [if_pos c,if_neg (show ¬ (b.depth ≠ (a0J i .nilp a).inn.depth) from fun h=>h c)]
   obtain ⟨T5,r5,k1,k2,k3,k4,k5,k6,k7,k8,k9⟩:=one_start hX2 hA2 hI hXA hXn hAn h22 h23 (by omega)
   have hgo:=one_ops (n0:=S.length) (X:=X) (A:=A) (L:=S2.length) hs hT hC hS hB hm hov ho1 hll huv hu1 (a:=a) (d0:=a.depth) (j0:=i) (W:=S9 p b.ops 0 (a0J i .nilp a) [0] ar) (fun h=>single_same h rfl ho1) b.ops.length 0 (a0J i .nilp a) [0] [] ar r5 0 T5 (by omega) k2 (by rw [ha]; exact Iv.begin hok hiv b.ops .nilp) (k6.trans hrf) k9 (k5.trans hrb) k8 har rfl (by rw [hb]; show _ = p.blocks.getD ((i:Nat):Int).toNat default; rw [Int.toNat_natCast]) (by rw [List.drop_zero])
   rw [k1]
   have hfr:=hgo.from (hF2.trans k3) k4 k5
   split
   ·rename_i e he
    rw [he] at hfr
    exact hfr
   ·rename_i he
    rw [he] at hfr
    exact hfr
  ·rw [if_neg c,if_pos (show b.depth ≠ (a0J i .nilp a).inn.depth from c),T9 hrf]
   obtain ⟨r',hr'⟩:∃ r':Rx,r' = { r with fault:=2208,place:=0 }:=⟨_,rfl⟩
   rw [←hr']
   obtain ⟨T',hT'⟩:∃ T',T' = S2.set X (.cells 0 (xc tx cd sx bl r') 0):=⟨_,rfl⟩
   rw [←hT']
   exact flt r' T' (0,2208) (by rw [hr']; rfl) (by decide) (by rw [hr']; rfl) (by rw [hr']) (by rw [hr']) (by rw [hT']; exact List.getElem?_set_self hXl2) (by rw [hT',List.getElem?_set_ne hXA]; exact hA2) (by rw [hT',List.getElem?_set_ne (by omega)]; exact h22) (by rw [hT',List.getElem?_set_ne (by omega)]; exact h23) (hF2.trans (by rw [hT']; exact Frm.set (.inl rfl)))
theorem refBlk_loop {P:Nat} (hs:W2 p) (hT:TxV p.texts tx) (hC:CdV p.codes cd) (hS:FoM p.statics sx) (hB:a3W p.blocks bl) (hm:∀ row n m,sx = .is row n (.cut m)→n ≤ m) (hPX:P < X) (hPA:P < A) (hXA:X ≠ A):∀ (m i:Nat) (ar:List Ar) (r:Rx) (S:Sto),i + m = p.blocks.length→S[P]? = some (.cells 0 [tx,cd,sx,bl] 0)→S[X]? = some (.cells 0 (xc tx cd sx bl r) 0)→S[A]? = some (.cells 0 (Q8 0 ar) 0)→r.inn = .ms A 0 0 ar.length 5→ar.length = p.blocks.length→r.blk = ((i:Nat):Int)→r.fault = 0→ArOk ar →
  ∃ S',i9.G4 P X S = some ⟨.ret (tup3 (blkGo p (p.blocks.drop i) i ar)),none,S'⟩∧Frm (fun j=>P < j) S S':=by
 have hsb:=hs.b
 intro m
 induction m with
 | zero=>
  intro i ar r S him hP hX hA hI har hrb hrf hok
  have hr5:(xc tx cd sx bl r)[5]? = some (.int .i64 ((i:Nat):Int)):=by
   show some (AV.int .i64 r.blk) = _
   rw [hrb]
  refine ⟨S,?_,Frm.refl _ _⟩
  rw [i9.G4_e,List.drop_of_length_le (by omega)]
  refine (br (O8 (n:=5) hX hr5)).trans ?_
  refine (br (O8 (n:=3) hP rfl)).trans ?_
  refine (br hB.1).trans ?_
  refine (br (aI _)).trans ?_
  exact bf (O0 (by omega))
 | succ m ih=>
  intro i ar r S him hP hX hA hI har hrb hrf hok
  have hi:i < p.blocks.length:=by omega
  have w1:IntKind.wrap .i64 (((i:Nat):Int) + 1) = ((i + 1:Nat):Int):=w64 _ (by omega) (by omega)
  have hXn:=(List.getElem?_eq_some_iff.1 hX).1
  have hAn:=(List.getElem?_eq_some_iff.1 hA).1
  have hr5:(xc tx cd sx bl r)[5]? = some (.int .i64 ((i:Nat):Int)):=by
   show some (AV.int .i64 r.blk) = _
   rw [hrb]
  obtain ⟨b,hb⟩:∃ b,b = p.blocks.getD i default:=⟨_,rfl⟩
  have hd:p.blocks.drop i = b :: p.blocks.drop (i + 1):=by
   rw [List.drop_eq_getElem_cons hi,hb,List.getD_eq_getElem?_getD,List.getElem?_eq_getElem hi]; rfl
  have hone:=refOne_spec hs hT hC hS hB hm hX hA hI hXA har hi hrb hrf hok
  have hokL:=look_okA hok (show i < ar.length by omega) har b .nilp
  have hlen:=lookA_len (p:=p) (b:=b) (k:=a0J i .nilp (ar.getD i default)) (l:=[0]) (ar:=ar)
  rw [←hb] at hone
  obtain ⟨E,hE⟩:∃ E,E = V8 p b (a0J i .nilp (ar.getD i default)) [0] ar:=⟨_,rfl⟩
  rw [←hE] at hone hokL hlen
  obtain ⟨S1,r1,e1,e2,e3,e4,e5,e6,e7⟩:=hone
  have e1':=act_of e1
  have hF1:Frm (fun j=>P < j) S S1:=e2.weak fun j hj=>by
   rcases hj with rfl | rfl | hj
   ·exact hPX
   ·exact hPA
   ·omega
  have hP1:=hF1.at_ P _ hP (Nat.lt_irrefl _)
  have hr15:(xc tx cd sx bl r1)[5]? = some (.int .i64 ((i:Nat):Int)):=by
   show some (AV.int .i64 r1.blk) = _
   rw [e5,hrb]
  have hgo:blkGo p (p.blocks.drop i) i ar = if E.1.2 = 0 then blkGo p (p.blocks.drop (i + 1)) (i + 1) E.2 else (i,E.1.1,E.1.2):=by
   rw [hd]
   simp only [blkGo]
   rw [←hE]
  rw [hgo]
  by_cases hz:E.1.2 = 0
  ·rw [if_pos hz]
   obtain ⟨f1,f2⟩:=e6 hz
   obtain ⟨r2,hr2⟩:∃ r2:Rx,r2 = { r1 with blk:=((i + 1:Nat):Int) }:=⟨_,rfl⟩
   have hX1l:=(List.getElem?_eq_some_iff.1 e3).1
   have hst:sto 1 S1 (.mp X 0 5) (.int .i64 ((i + 1:Nat):Int)) = some (S1.set X (.cells 0 (xc tx cd sx bl r2) 0)):=by
    rw [U8 e3 (by show 5 < 12; omega) rfl rfl,hr2]
    rfl
   obtain ⟨S2,hS2⟩:∃ S2,S2 = S1.set X (.cells 0 (xc tx cd sx bl r2) 0):=⟨_,rfl⟩
   rw [←hS2] at hst
   have hF2:Frm (fun j=>P < j) S S2:=hF1.trans (by rw [hS2]; exact Frm.set hPX)
   obtain ⟨S',k1,k2⟩:=ih (i + 1) E.2 r2 S2 (by omega) (hF2.at_ P _ hP (Nat.lt_irrefl _)) (by rw [hS2]; exact List.getElem?_set_self hX1l) (by rw [hS2,List.getElem?_set_ne hXA]; exact f2) (by rw [hr2,hlen]; show r1.inn = _; rw [e4,hI]) (by rw [hlen]; exact har) (by rw [hr2]) (by rw [hr2]; exact f1) hokL
   refine ⟨S',?_,hF2.trans k2⟩
   rw [i9.G4_e]
   refine (br (O8 (n:=5) hX hr5)).trans ?_
   refine (br (O8 (n:=3) hP rfl)).trans ?_
   refine (br hB.1).trans ?_
   refine (br (aI _)).trans ?_
   refine (bt (O4 (by omega))).trans ?_
   refine (cr e1').trans ?_
   refine (br (O8 (n:=7) e3 rfl)).trans ?_
   refine (br (aI _)).trans ?_
   refine (bf (by rw [O4 f1]; rfl)).trans ?_
   refine (br (O8 (n:=5) e3 hr15)).trans ?_
   refine (br (aI _)).trans ?_
   rw [w1]
   refine (br hst).trans ?_
   exact k1
  ·rw [if_neg hz]
   obtain ⟨f1,f2⟩:=e7 hz
   refine ⟨S1,?_,hF1⟩
   rw [i9.G4_e]
   refine (br (O8 (n:=5) hX hr5)).trans ?_
   refine (br (O8 (n:=3) hP rfl)).trans ?_
   refine (br hB.1).trans ?_
   refine (br (aI _)).trans ?_
   refine (bt (O4 (by omega))).trans ?_
   refine (cr e1').trans ?_
   refine (br (O8 (n:=7) e3 rfl)).trans ?_
   refine (br (aI _)).trans ?_
   refine (bt (by rw [O0 (by rw [f1]; omega)]; rfl)).trans ?_
   refine (br (O8 (n:=5) e3 hr15)).trans ?_
   refine (br (O8 (n:=6) e3 rfl)).trans ?_
   refine (br (O8 (n:=7) e3 rfl)).trans ?_
   rw [f1,f2]
   rfl
theorem rc_rep:∀ (n j:Nat),0 < j→a2k n [AV.int .i64 0, .int .i64 0, .int .i64 0, .bool false, .bool false] = Q8 j (List.replicate n arZ):=by
 intro n
 induction n with
 | zero=>intro j _; rfl
 | succ n ih=>
  intro j hj
  have h5:a0y j arZ = [AV.int .i64 0, .int .i64 0, .int .i64 0, .bool false, .bool false]:=by
   unfold a0y
   rw [O0 (by omega)]
   rfl
  simp only [a2k,List.replicate_succ,Q8]
  rw [ih (j + 1) (by omega),h5]
theorem ar0_ok (n:Nat):ArOk (ar0 n):=by
 intro j
 have h:a3V (ar0 n) j = arZ∨a3V (ar0 n) j = ⟨false,false,1,0,0⟩∨a3V (ar0 n) j = default:=by
  unfold a3V ar0
  rw [List.getD_eq_getElem?_getD]
  by_cases hj:j < n
  ·by_cases h0:j = 0
   ·subst h0
    rw [List.getElem?_set_self (by simpa using hj)]
    exact .inr (.inl rfl)
   ·rw [List.getElem?_set_ne (Ne.symm h0),List.getElem?_replicate,if_pos hj]
    exact .inl rfl
  ·rw [List.getElem?_eq_none (by simp; omega)]
   exact .inr (.inr rfl)
 rcases h with h | h | h <;> rw [h] <;> decide
theorem a41 (hs:W2 p) (hm:∀ row n m,sx = .is row n (.cut m)→n ≤ m) {st:Sto} (hT:TxV p.texts tx) (hC:CdV p.codes cd) (hS:FoM p.statics sx) (hB:a3W p.blocks bl) (hsc:sx.isCell = true):O1 ap 7 [.agg [tx,cd,sx,bl]] st = some (.ret (tup3 (verA p)),st):=by
 rw [i9.call]
 suffices hb:∃ S',i9.b (.agg [tx,cd,sx,bl]) st = some ⟨.ret (tup3 (verA p)),none,S'⟩∧Frm (fun j=>st.length < j) (st ++ [Ob.cells 0 [tx,cd,sx,bl] 0]) S' by
  obtain ⟨S',k1,k2⟩:=hb
  refine O7 k1 rfl rfl ⟨by have:=k2.len; simp at this; omega,fun i hi=>?_⟩
  rw [k2.at_ i st[i] (by rw [List.getElem?_append_left hi,List.getElem?_eq_getElem hi]) (by omega),List.getElem?_eq_getElem hi]
 have hec:AV.cells (.agg [tx,cd,sx,bl]) = [tx,cd,sx,bl]:=rfl
 have hall:([tx,cd,sx,bl]).all AV.isCell = true:=by
  simp only [List.all_cons,List.all_nil,hT.2.1,hC.2.1,hsc,hB.2.1,Bool.and_true]
 obtain ⟨r0,hr0⟩:∃ r0:Rx,r0 = ⟨.nils,0,0,0,0,0, .nils, .nils⟩:=⟨_,rfl⟩
 have hag:(X3 (O9 (fun i=>([(0,4),(4,1),(5,1),(6,1),(7,1),(8,1),(9,1),(10,1),(11,1)]:List (Nat × Nat))[i]?) [.nils, .nils, .nils, .nils, .nils, .int .i64 0, .int .i64 0, .int .i64 0, .int .i64 0, .int .i64 0, .nils, .nils] [(0, .agg [tx,cd,sx,bl])])) = some (.agg (xc tx cd sx bl r0)):=by
  rw [hr0]
  simp only [O9,List.getElem?_cons_zero,hec]
  rw [if_pos ⟨rfl,by decide,hall⟩]
  rfl
 have hall2:(xc tx cd sx bl r0).all AV.isCell = true:=by
  rw [hr0]
  simp only [xc,List.all_cons,List.all_nil,hT.2.1,hC.2.1,hsc,hB.2.1,Bool.and_true]
  rfl
 obtain ⟨S0,hS0⟩:∃ S0,S0 = st ++ [Ob.cells 0 [tx,cd,sx,bl] 0]:=⟨_,rfl⟩
 have hl0:S0.length = st.length + 1:=by rw [hS0]; simp
 have hP0:S0[st.length]? = some (.cells 0 [tx,cd,sx,bl] 0):=by rw [hS0]; exact P6
 obtain ⟨S1,hS1⟩:∃ S1,S1 = S0 ++ [Ob.cells 0 (xc tx cd sx bl r0) 0]:=⟨_,rfl⟩
 have hl1:S1.length = st.length + 2:=by rw [hS1]; simp [hl0]
 have hX1:S1[S0.length]? = some (.cells 0 (xc tx cd sx bl r0) 0):=by rw [hS1]; exact P6
 have hP1:S1[st.length]? = some (.cells 0 [tx,cd,sx,bl] 0):=by rw [hS1]; exact P8 hP0
 have hli:=refLists_spec (p:=p) hX1 (by rw [hr0]) hs hT hC hS hm hall
 obtain ⟨r1,hr1⟩:∃ r1,r1 = r0.put (Y4 p):=⟨_,rfl⟩
 rw [←hr1] at hli
 obtain ⟨S2,hS2⟩:∃ S2,S2 = (S1 ++ [Ob.cells 0 [tx,cd,sx,bl] 0]).set S0.length (.cells 0 (xc tx cd sx bl r1) 0):=⟨_,rfl⟩
 rw [←hS2] at hli
 have hl2:S2.length = st.length + 3:=by rw [hS2]; simp [hl1]
 have hX2:S2[S0.length]? = some (.cells 0 (xc tx cd sx bl r1) 0):=by rw [hS2]; exact List.getElem?_set_self (by simp; omega)
 have hP2:S2[st.length]? = some (.cells 0 [tx,cd,sx,bl] 0):=by rw [hS2,List.getElem?_set_ne (by omega)]; exact P8 hP1
 have hF2:Frm (fun j=>st.length < j) S0 S2:=by
  rw [hS2,hS1]
  exact Frm.app.trans (Frm.app.trans (Frm.set (by omega)))
 have hX2l:=(List.getElem?_eq_some_iff.1 hX2).1
 rw [←hS0]
 have via':∀ {a b:Option Res},a = b→(∃ S',b = some ⟨.ret (tup3 (verA p)),none,S'⟩∧Frm (fun j=>st.length < j) S0 S')→∃ S',a = some ⟨.ret (tup3 (verA p)),none,S'⟩∧Frm (fun j=>st.length < j) S0 S':=fun h k=>by rw [h]; exact k
 have bad:∀ (r':Rx) (T':Sto) (e:Nat × Nat),r'.fault = ((e.2:Nat):Int)→e.2 ≠ 0→r'.place = ((e.1:Nat):Int)→T'[S0.length]? = some (.cells 0 (xc tx cd sx bl r') 0)→i9.F8 st.length S0.length T' = some ⟨.ret (tup3 (0,e.1,e.2)),none,T'⟩:=by
  intro r' T' e h1 h2 h3 h4
  rw [i9.F8_e]
  refine (br (O8 (n:=7) h4 rfl)).trans ?_
  refine (br (aI _)).trans ?_
  refine (bt (by rw [O0 (by rw [h1]; omega)]; rfl)).trans ?_
  refine (br (O8 (n:=6) h4 rfl)).trans ?_
  refine (br (O8 (n:=7) h4 rfl)).trans ?_
  rw [h1,h3]
  rfl
 rw [i9.b_eq,hec,←hS0]
 refine via' (it hall) ?_
 refine via' (br (show ld true 4 S0 (.mp st.length 0 0) = some (.agg [tx,cd,sx,bl]) from Z7 hP0 rfl)) ?_
 refine via' (br hag) ?_
 refine via' (it hall2) ?_
 rw [show AV.cells (.agg (xc tx cd sx bl r0)) = xc tx cd sx bl r0 from rfl,←hS1]
 refine via' (cr hli) ?_
 refine via' (br (O8 (n:=7) hX2 rfl)) ?_
 refine via' (br (aI _)) ?_
 unfold verA
 by_cases he:(Y4 p).2 = 0
 ·rw [if_neg (show ¬ (Y4 p).2 ≠ 0 from fun h=>h he)]
  have hr10:r1 = r0:=by rw [hr1]; unfold Rx.put; rw [if_pos he]
  have hf1:r1.fault = 0:=by rw [hr10,hr0]
  have via':∀ {Q:Nat × Nat × Nat} {a b:Option Res},a = b→(∃ S',b = some ⟨.ret (tup3 Q),none,S'⟩∧Frm (fun j=>st.length < j) S0 S')→∃ S',a = some ⟨.ret (tup3 Q),none,S'⟩∧Frm (fun j=>st.length < j) S0 S':=fun h k=>by rw [h]; exact k
  refine via' (bt (O4 hf1)) ?_
  refine via' (br (O8 (n:=3) hP2 rfl)) ?_
  refine via' (br hB.1) ?_
  have mid:∀ q,q = decide (p.blocks.length = 0∨8192 < p.blocks.length)→∃ S',i9.G6 st.length S0.length q S2 = some ⟨.ret (tup3 (if p.blocks.length = 0∨8192 < p.blocks.length then (0,0,2205) else blkGo p p.blocks 0 (ar0 p.blocks.length))),none,S'⟩∧Frm (fun j=>st.length < j) S0 S':=by
   intro q hq
   rw [i9.G6_e]
   by_cases c:p.blocks.length = 0∨8192 < p.blocks.length
   ·rw [O4 c] at hq
    subst hq
    rw [if_pos c]
    refine via' (bt rfl) ?_
    refine via' (cr (R2 hX2 2205 0)) ?_
    rw [T9 hf1]
    exact ⟨_,bad { r1 with fault:=2205,place:=0 } _ (0,2205) rfl (by decide) rfl (List.getElem?_set_self hX2l),hF2.trans (Frm.set (by omega))⟩
   ·rw [O0 c] at hq
    subst hq
    rw [if_neg c]
    refine via' (bf rfl) ?_
    rw [i9.F8_e]
    refine via' (br (O8 (n:=7) hX2 rfl)) ?_
    refine via' (br (aI _)) ?_
    refine via' (bf (by rw [O4 hf1]; rfl)) ?_
    refine via' (br (O8 (n:=3) hP2 rfl)) ?_
    refine via' (br hB.1) ?_
    obtain ⟨n,hn⟩:∃ n,p.blocks.length = n + 1:=⟨p.blocks.length - 1,by omega⟩
    obtain ⟨Z,hZ⟩:∃ Z:List AV,Z = a2k p.blocks.length [AV.int .i64 0, .int .i64 0, .int .i64 0, .bool false, .bool false]:=⟨_,rfl⟩
    have hmk:mkS 5 32 [.int .i64 0, .int .i64 0, .int .i64 0, .bool false, .bool false] (.int .i64 ((p.blocks.length:Nat):Int)) (.int .i64 ((p.blocks.length:Nat):Int)) S2 = some (.ms S2.length 0 0 p.blocks.length 5,S2 ++ [.cells 0 Z 0]):=by
     simp only [mkS]
     rw [if_pos (by omega),hZ]
     simp
    refine via' (br hmk) ?_
    obtain ⟨S3,hS3⟩:∃ S3,S3 = S2 ++ [Ob.cells 0 Z 0]:=⟨_,rfl⟩
    rw [←hS3]
    have hX3:S3[S0.length]? = some (.cells 0 (xc tx cd sx bl r1) 0):=by rw [hS3]; exact P8 hX2
    have hX3l:=(List.getElem?_eq_some_iff.1 hX3).1
    obtain ⟨r2,hr2⟩:∃ r2:Rx,r2 = { r1 with inn := .ms S2.length 0 0 p.blocks.length 5 }:=⟨_,rfl⟩
    obtain ⟨S4,hS4⟩:∃ S4,S4 = S3.set S0.length (.cells 0 (xc tx cd sx bl r2) 0):=⟨_,rfl⟩
    have hst4:sto 1 S3 (.mp S0.length 0 4) (.ms S2.length 0 0 p.blocks.length 5) = some S4:=by
     rw [U8 hX3 (by show 4 < 12; omega) rfl rfl,hS4,hr2]
     rfl
    have hX4:S4[S0.length]? = some (.cells 0 (xc tx cd sx bl r2) 0):=by rw [hS4]; exact List.getElem?_set_self hX3l
    have hr24:(xc tx cd sx bl r2)[4]? = some (.ms S2.length 0 0 p.blocks.length 5):=by rw [hr2]; rfl
    have hA4:S4[S2.length]? = some (.cells 0 Z 0):=by rw [hS4,List.getElem?_set_ne (by omega),hS3]; exact P6
    have hA4l:=(List.getElem?_eq_some_iff.1 hA4).1
    have hZ5:splice Z 0 [AV.int .i64 1, .int .i64 0, .int .i64 0, .bool true, .bool false] = Q8 0 (ar0 p.blocks.length):=by
     rw [hZ,hn]
     have e1:a2k (n + 1) [AV.int .i64 0, .int .i64 0, .int .i64 0, .bool false, .bool false] = [AV.int .i64 0, .int .i64 0, .int .i64 0, .bool false, .bool false] ++ a2k n [AV.int .i64 0, .int .i64 0, .int .i64 0, .bool false, .bool false]:=rfl
     have e2:ar0 (n + 1) = ⟨false,false,1,0,0⟩ :: List.replicate n arZ:=by unfold ar0; rw [List.replicate_succ]; rfl
     rw [e1,e2,rc_rep n 1 (by omega)]
     rfl
    have hZl:Z.length = p.blocks.length * 5:=by
     rw [hZ,hn]
     have e1:a2k (n + 1) [AV.int .i64 0, .int .i64 0, .int .i64 0, .bool false, .bool false] = [AV.int .i64 0, .int .i64 0, .int .i64 0, .bool false, .bool false] ++ a2k n [AV.int .i64 0, .int .i64 0, .int .i64 0, .bool false, .bool false]:=rfl
     rw [e1,rc_rep n 1 (by omega),List.length_append,rc_len,List.length_replicate]
     show 5 + n * 5 = _
     omega
    obtain ⟨S5,hS5⟩:∃ S5,S5 = S4.set S2.length (.cells 0 (Q8 0 (ar0 p.blocks.length)) 0):=⟨_,rfl⟩
    have hst5:sto 5 S4 (.mp S2.length 0 0) (.agg [AV.int .i64 1, .int .i64 0, .int .i64 0, .bool true, .bool false]) = some S5:=by
     have h1:0 + 5 ≤ Z.length:=by omega
     unfold sto
     rw [show (AV.agg [AV.int .i64 1, .int .i64 0, .int .i64 0, .bool true, .bool false]).cells = [AV.int .i64 1, .int .i64 0, .int .i64 0, .bool true, .bool false] from rfl,if_pos (show ([AV.int .i64 1, .int .i64 0, .int .i64 0, .bool true, .bool false]:List AV).length = 5 from rfl)]
     simp only [W6,hA4]
     rw [if_pos ⟨trivial,Nat.zero_le _,h1,rfl⟩,hZ5,hS5]
    have hX5:S5[S0.length]? = some (.cells 0 (xc tx cd sx bl r2) 0):=by rw [hS5,List.getElem?_set_ne (by omega)]; exact hX4
    have hA5:S5[S2.length]? = some (.cells 0 (Q8 0 (ar0 p.blocks.length)) 0):=by rw [hS5]; exact List.getElem?_set_self hA4l
    obtain ⟨r3,hr3⟩:∃ r3:Rx,r3 = { r2 with blk:=0 }:=⟨_,rfl⟩
    obtain ⟨S6,hS6⟩:∃ S6,S6 = S5.set S0.length (.cells 0 (xc tx cd sx bl r3) 0):=⟨_,rfl⟩
    have hX5l:=(List.getElem?_eq_some_iff.1 hX5).1
    have hst6:sto 1 S5 (.mp S0.length 0 5) (.int .i64 0) = some S6:=by
     rw [U8 hX5 (by show 5 < 12; omega) rfl rfl,hS6,hr3]
     rfl
    have hal:(ar0 p.blocks.length).length = p.blocks.length:=by simp [ar0]
    have hF6:Frm (fun j=>st.length < j) S0 S6:=by
     rw [hS6,hS5,hS4,hS3]
     exact hF2.trans (Frm.app.trans ((Frm.set (by omega)).trans ((Frm.set (by omega)).trans (Frm.set (by omega)))))
    obtain ⟨S',k1,k2⟩:=refBlk_loop (P:=st.length) (X:=S0.length) (A:=S2.length) hs hT hC hS hB hm (by omega) (by omega) (by omega) p.blocks.length 0 (ar0 p.blocks.length) r3 S6 (by omega) (hF6.at_ _ _ hP0 (Nat.lt_irrefl _)) (by rw [hS6]; exact List.getElem?_set_self hX5l) (by rw [hS6,List.getElem?_set_ne (by omega)]; exact hA5) (by rw [hr3,hr2,hal]) hal (by rw [hr3]; rfl) (by rw [hr3,hr2]; exact hf1) (ar0_ok _)
    rw [List.drop_zero] at k1
    refine ⟨S',?_,hF6.trans k2⟩
    refine (br hst4).trans ?_
    refine (br (O8 (n:=4) hX4 hr24)).trans ?_
    refine (br (show _ = some (AV.agg [AV.int .i64 1, .int .i64 0, .int .i64 0, .bool true, .bool false]) from rfl)).trans ?_
    refine (br (show ia 5 (.ms S2.length 0 0 p.blocks.length 5) (.int .i64 0) = some (.mp S2.length 0 0) from ?_)).trans ?_
    ·have:=ia_ar (A:=S2.length) (n:=p.blocks.length) (i:=0) (by omega)
     exact this
    refine (br hst5).trans ?_
    refine (br hst6).trans ?_
    exact k1
  by_cases h0:p.blocks.length = 0
  ·refine via' (bt (O4 (by omega))) ?_
   exact mid true (O4 (.inl h0)).symm
  ·refine via' (bf (O0 (by omega))) ?_
   refine via' (br (O8 (n:=3) hP2 rfl)) ?_
   refine via' (br hB.1) ?_
   exact mid _ (decide_eq_decide.2 (by omega))
 ·rw [if_pos he]
  have hf1:r1.fault = (((Y4 p).2:Nat):Int)∧r1.place = (((Y4 p).1:Nat):Int):=by
   rw [hr1]
   unfold Rx.put
   rw [if_neg he]
   exact ⟨rfl,rfl⟩
  refine ⟨S2,?_,hF2⟩
  refine (bf (O0 (by rw [hf1.1]; omega))).trans ?_
  rw [i9.G6_e]
  refine (bf rfl).trans ?_
  exact bad r1 S2 (Y4 p) hf1.1 he hf1.2 hX2
end
end Go.Proofs.YtcgepgahgihojaaGreatDoor
namespace Go.Proofs.YtcgepgahgihojaaGreatDoor
open Go.St Go.Lib
set_option linter.unusedVariables false
set_option linter.unusedSimpArgs false
theorem gd_app {α:Type} {l m:List α} {d:α} {i:Nat} (h:i < l.length):(l ++ m).getD i d = l.getD i d:=by
 rw [List.getD_eq_getElem?_getD,List.getElem?_append_left h,←List.getD_eq_getElem?_getD]
theorem gd_last {α:Type} {l:List α} {x d:α}:(l ++ [x]).getD l.length d = x:=by
 rw [List.getD_eq_getElem?_getD,List.getElem?_concat_length]
 rfl
def Clean (v:AV):Prop:=∀ n,v.strip n = v∧v.old n = true
def T7 (l:List AV):Prop:=∀ v ∈ l,Clean v
theorem T7.strips {l:List AV} (h:T7 l) (n:Nat):strips n l = l:=by
 induction l with
 | nil=>rfl
 | cons v r ih=>simp only [Go.St.strips]; rw [(h v (by simp) n).1,ih fun x hx=>h x (by simp [hx])]
theorem T7.olds {l:List AV} (h:T7 l) (n:Nat):olds n l = true:=by
 induction l with
 | nil=>rfl
 | cons v r ih=>simp only [Go.St.olds]; rw [(h v (by simp) n).2,ih fun x hx=>h x (by simp [hx])]; rfl
theorem T7.app {a b:List AV} (h:T7 a) (k:T7 b):T7 (a ++ b):=fun v hv=>by
 rcases List.mem_append.1 hv with hv | hv
 ·exact h v hv
 ·exact k v hv
theorem a3D {cs:List AV} (h:T7 cs):Clean (.agg cs):=fun k=>by simp only [AV.strip,AV.old,h.strips,h.olds,and_self]
theorem clean_flat:∀ {ms:List (List AV)},(∀ m ∈ ms,T7 m)→T7 ms.flatten:=by
 intro ms
 induction ms with
 | nil=>intro _ v hv; simp at hv
 | cons m r ih=>
  intro h
  rw [List.flatten_cons]
  exact (h m (by simp)).app (ih fun x hx=>h x (by simp [hx]))
theorem X8:Clean .nils:=fun _=>⟨rfl,rfl⟩
theorem R7 (x:Int):Clean (.int .i64 x):=fun _=>⟨rfl,rfl⟩
theorem a3i (x:ByteArray):Clean (.str x):=fun _=>⟨rfl,rfl⟩
theorem part_take {row:List AV} {n i w:Nat} (h:(i + 1) * w ≤ n):((row.take n).drop (i * w)).take w = (row.drop (i * w)).take w:=by
 rw [List.drop_take,List.take_take,Nat.min_eq_left]
 rw [Nat.succ_mul] at h
 omega
theorem el_tail {w n:Nat} {f:Nat→List AV→Prop} {v:AV} (h:ElV w n f v) (st:Sto):∃ row,T6 false w st v = some (row,n)∧row.length = n * w∧(∀ tok,ElV w n f (.is row n tok))∧∀ i,i < n→f i ((row.drop (i * w)).take w):=by
 obtain ⟨h1,h2,h3,h4⟩:=h
 cases v with
 | nils=>
  have hn:n = 0:=by simpa [P3] using h1.symm
  subst hn
  exact ⟨[],rfl,by simp,fun tok=>⟨rfl,rfl,rfl,fun i hi=>absurd hi (by omega)⟩,fun i hi=>absurd hi (by omega)⟩
 | is row m tok=>
  have hm:m = n:=by simpa [P3] using h1
  subst hm
  have hat:∀ i,i < m→(i + 1) * w ≤ row.length∧f i ((row.drop (i * w)).take w):=fun i hi=>by
   obtain ⟨cs,hia,hf⟩:=h4 i hi
   simp only [ia,P9 hi,Option.bind_some] at hia
   split at hia
   ·rename_i hc
    simp only [Option.some.injEq,AV.ip.injEq] at hia
    subst hia
    exact ⟨hc,hf⟩
   ·cases hia
  have hlen:m * w ≤ row.length:=by
   by_cases h0:m = 0
   ·rw [h0,Nat.zero_mul]; omega
   ·have:=(hat (m - 1) (by omega)).1
    rwa [show m - 1 + 1 = m by omega] at this
  have hle:∀ i,i < m→(i + 1) * w ≤ m * w:=fun i hi=>Nat.mul_le_mul_right w hi
  refine ⟨row.take (m * w),?_,by rw [List.length_take]; omega,fun tok=>⟨rfl,rfl,rfl,fun i hi=>⟨(row.drop (i * w)).take w,?_,(hat i hi).2⟩⟩,fun i hi=>by rw [part_take (hle i hi)]; exact (hat i hi).2⟩
  ·simp only [T6,Bool.false_eq_true,if_false,rowOf]
   by_cases h0:row.length = m * w
   ·rw [if_pos h0,←h0,List.take_length]; rfl
   ·rw [if_neg h0,if_pos hlen]; rfl
  ·have hc:(i + 1) * w ≤ (row.take (m * w)).length:=by rw [List.length_take]; have:=hle i hi; omega
   simp only [ia,P9 hi,Option.bind_some,hc,if_true,part_take (hle i hi)]
 | _=>cases h3
theorem chunk_mem {w n:Nat} (hw:0 < w) {row:List AV} (hl:row.length = n * w) {P:AV→Prop} (h:∀ i,i < n→∀ x ∈ (row.drop (i * w)).take w,P x):∀ x ∈ row,P x:=by
 intro x hx
 obtain ⟨j,hj,rfl⟩:=List.getElem_of_mem hx
 have hi:j / w < n:=Nat.div_lt_of_lt_mul (by rw [Nat.mul_comm]; omega)
 have hm:=Nat.mod_lt j hw
 have hd:=Nat.div_add_mod j w
 refine h (j / w) hi _ ?_
 rw [List.mem_iff_getElem?]
 refine ⟨j % w,?_⟩
 rw [List.getElem?_take_of_lt hm,List.getElem?_drop,Nat.mul_comm,hd,List.getElem?_eq_getElem hj]
theorem ins_el {c:List (Int × Int)} {v:AV} (h:a19 c v):ElV 2 c.length (fun i cs=>cs = [.int .i64 (c.getD i (0,0)).1, .int .i64 (c.getD i (0,0)).2]) v:=by
 refine ⟨h.len,h.cell.1,by rcases h with ⟨_,rfl⟩ | ⟨_,_,rfl⟩ <;> rfl,fun i hi=>⟨_,a1v h (x:=c.getD i (0,0)) ?_,rfl⟩⟩
 rw [List.getD_eq_getElem?_getD,List.getElem?_eq_getElem hi]
 rfl
theorem el_ins {c:List (Int × Int)} {v:AV} (h:ElV 2 c.length (fun i cs=>cs = [.int .i64 (c.getD i (0,0)).1, .int .i64 (c.getD i (0,0)).2]) v):a19 c v:=by
 obtain ⟨row,t1,t2,t3,t4⟩:=el_tail h []
 have hrow:row = Q5 c:=by
  apply List.ext_getElem?
  intro j
  have hic:=a0Q c
  by_cases hj:j < c.length * 2
  ·have hi:j / 2 < c.length:=by omega
   have e:=t4 (j / 2) hi
   have e1:row[j]? = (((row.drop (j / 2 * 2)).take 2))[j % 2]?:=by
    rw [List.getElem?_take_of_lt (by omega),List.getElem?_drop]
    congr 1
    omega
   obtain ⟨x,hx⟩:∃ x,c[j / 2]? = some x:=⟨_,List.getElem?_eq_getElem hi⟩
   have hsp:c = c.take (j / 2) ++ x :: c.drop (j / 2 + 1):=by
    have e:=List.getElem?_eq_getElem hi
    rw [hx] at e
    cases e
    rw [←List.drop_eq_getElem_cons hi,List.take_append_drop]
   have hg:c.getD (j / 2) (0,0) = x:=by rw [List.getD_eq_getElem?_getD,hx]; rfl
   have ht:(Q5 (c.take (j / 2))).length = j / 2 * 2:=by rw [a0Q,List.length_take]; congr 1; omega
   have e2:(Q5 c)[j]? = ([AV.int .i64 x.1, .int .i64 x.2])[j % 2]?:=by
    have:Q5 c = Q5 (c.take (j / 2)) ++ Q5 (x :: c.drop (j / 2 + 1)):=by rw [←a24,←hsp]
    rw [this,List.getElem?_append_right (by omega),ht]
    have hm:j - j / 2 * 2 = j % 2:=by omega
    rw [hm]
    have:j % 2 = 0∨j % 2 = 1:=by omega
    rcases this with h0 | h0 <;> rw [h0] <;> rfl
   rw [e1,e,e2,hg]
  ·rw [List.getElem?_eq_none (by omega),List.getElem?_eq_none (by omega)]
 have hv:=h.2.2.1
 cases v with
 | nils=>
  have:c.length = 0:=by simpa [P3] using h.1.symm
  exact .inl ⟨List.eq_nil_of_length_eq_zero this,rfl⟩
 | is r m tok=>
  have hm:m = c.length:=by simpa [P3] using h.1
  subst hm
  simp only [T6,Bool.false_eq_true,if_false,rowOf] at t1
  refine .inr ⟨r.drop (c.length * 2),tok,?_⟩
  have hr:r.take (c.length * 2) = Q5 c:=by
   split at t1
   ·rename_i h0
    simp only [Option.bind_some,Option.some.injEq,Prod.mk.injEq,and_true] at t1
    rw [←hrow,←t1,←h0,List.take_length]
   ·split at t1
    ·simp only [Option.bind_some,Option.some.injEq,Prod.mk.injEq,and_true] at t1
     rw [←hrow,←t1]
    ·cases t1
  rw [←hr,List.take_append_drop]
 | _=>cases hv
theorem Q3 (cs:List AV):AV.cells (.agg cs) = cs:=rfl
theorem U0 {st:Sto} {o z:Ob}:((st ++ [o]) ++ [z])[st.length]? = some o:=by
 rw [List.append_assoc]; simp
theorem set_mid {st:Sto} {o o' z:Ob}:((st ++ [o]) ++ [z]).set st.length o' = (st ++ [o']) ++ [z]:=by
 rw [List.set_append_left _ _ (by simp),last_set]
theorem sto_all {st:Sto} {id:Nat} {cs cs':List AV} (h:st[id]? = some (.cells 0 cs 0)) (hc:cs'.all AV.isCell = true) {n:Nat} (hn:cs'.length = n) (hn':cs.length = n):sto n st (.mp id 0 0) (.agg cs') = some (st.set id (.cells 0 cs' 0)):=by
 have h2:cs'.length ≤ cs.length:=by omega
 have h4:((AV.agg cs').cells) = cs':=rfl
 unfold sto
 rw [h4,if_pos hn]
 simp only [W6,h,h2,hc,Nat.le_refl,true_and,and_self,if_true,splice,List.take_zero,List.nil_append,Nat.zero_add]
 rw [List.drop_of_length_le (by omega),List.append_nil]
theorem two_ret {st:Sto} {cs z:List AV} {n:Nat} (hz:z.length = n) (hc:cs.length = n) (hall:cs.all AV.isCell = true) (hcl:T7 cs) {b:Option Res}
  (hb:b = ((ld true n ((st ++ [Ob.cells 0 cs 0]) ++ [Ob.cells 0 z 0]) (.mp st.length 0 0)).bind fun v6=>(sto n ((st ++ [Ob.cells 0 cs 0]) ++ [Ob.cells 0 z 0]) (.mp (st.length + 1) 0 0) v6).bind fun s7=>(ld true n s7 (.mp (st.length + 1) 0 0)).bind fun v8=>some ⟨.ret v8,none,s7⟩)) :
  (b.bind fun r=>some (gc st (r.out,r.st))) = some (.ret (.agg cs),st):=by
 have e1:(st ++ [Ob.cells 0 cs 0]).length = st.length + 1:=by simp
 have hl:((st ++ [Ob.cells 0 cs 0]) ++ [Ob.cells 0 z 0])[st.length + 1]? = some (.cells 0 z 0):=by rw [←e1]; exact P6
 have hll:=(List.getElem?_eq_some_iff.1 hl).1
 rw [Z7 (g:=0) (fz:=0) U0 hc,Option.bind_some,sto_all hl hall hc hz,Option.bind_some,Z7 (g:=0) (fz:=0) (List.getElem?_set_self hll) hc,Option.bind_some] at hb
 refine O7 hb (a3D hcl _).1 (a3D hcl _).2 ?_
 rw [List.append_assoc]
 exact (O5.app (Nat.le_refl _)).trans (O5.set (by omega))
theorem a2T {o:OpA} {lv:AV} (h:W4 o.l lv):(oc o lv).all AV.isCell = true:=by
 simp only [oc,List.all_cons,List.all_nil,h.2.1,Bool.and_true]
 rfl
theorem oc_clean {o:OpA} {lv:AV} (h:Clean lv):T7 (oc o lv):=fun v hv=>by
 simp only [oc,List.mem_cons,List.not_mem_nil,or_false] at hv
 rcases hv with rfl | rfl | rfl | rfl | rfl
 ·exact R7 _
 ·exact R7 _
 ·exact R7 _
 ·exact R7 _
 ·exact h
theorem gcT_tip {row:List AV} {len id g es:Nat} {st st':Sto} (hs:strips st.length row = row) (ho:olds st.length row = true) (hi:st.length ≤ id) (ht:st'[id]? = some (.tip g)) (hk:O5 st.length st st') :
  gcT st (.ret (.is row len (.tip id g es)),st') = (.ret (.is row len (.tip st.length 0 es)),st ++ [.tip 0]):=by
 unfold gcT
 dsimp only
 rw [if_pos ⟨by rw [hs]; exact ho,hi,ht,hk.len,fun i hi => .inl (hk.at_ i hi)⟩,a4B hk,hs]
theorem clean_cut {row:List AV} {n m:Nat} (h:T7 row):Clean (.is row n (.cut m)):=fun k=>by
 simp only [AV.strip,AV.old,h.strips,h.olds,Tok.strip,Tok.old,Bool.and_self,and_self]
def Lnt (w n:Nat) (r0 r1:List AV) (f:Nat→List AV→Prop) (v:AV):Prop:=∃ row,v = .is (row ++ (r0 ++ r1)) n (.cut (n + 2))∧row.length = n * w∧T7 row∧∀ i,i < n→f i ((row.drop (i * w)).take w)
theorem Lnt.el {w n:Nat} {r0 r1:List AV} {f:Nat→List AV→Prop} {v:AV} (h:Lnt w n r0 r1 f v):ElV w n f v:=by
 obtain ⟨row,rfl,h2,h3,h4⟩:=h
 refine ⟨rfl,rfl,rfl,fun i hi=>⟨(row.drop (i * w)).take w,?_,h4 i hi⟩⟩
 have hle:(i + 1) * w ≤ row.length:=by rw [h2]; exact Nat.mul_le_mul_right w hi
 have hc:(i + 1) * w ≤ (row ++ (r0 ++ r1)).length:=by rw [List.length_append]; omega
 simp only [ia,P9 hi,Option.bind_some,hc,if_true]
 rw [Nat.succ_mul] at hle
 rw [List.drop_append_of_le_length (by omega),List.take_append_of_le_length (by rw [List.length_drop]; omega)]
theorem Lnt.clean {w n:Nat} {r0 r1:List AV} {f:Nat→List AV→Prop} {v:AV} (h:Lnt w n r0 r1 f v) (c0:T7 r0) (c1:T7 r1):Clean v:=by
 obtain ⟨row,rfl,h2,h3,h4⟩:=h
 exact clean_cut (h3.app (c0.app c1))
theorem bnd_nat {d m i:Nat} {k:IntKind} (h:i ≤ m):bnd d m (some (.int k (i:Int))) = some i:=by
 unfold bnd
 simp only
 rw [if_pos (by omega)]
 simp
theorem a0g {es n:Nat} {row:List AV} {i g:Nat} (hl:row.length = (n + 2) * es):a06 es (.is row (n + 2) (.tip i g es)) none (some (.int .i64 ((n:Nat):Int))) = some (.is row n (.cut (n + 2))):=by
 have h1:bnd (n + 2) (n + 2) (some (.int .i64 ((n:Nat):Int))) = some n:=bnd_nat (by omega)
 have h2:¬ n = n + 2:=by omega
 have h3:bnd 0 n none = some 0:=rfl
 simp only [a06,Tok.most,h1,Option.bind_some,h3,hl,if_true,Tok.part,h2,if_false,Nat.zero_mul,List.drop_zero,Nat.sub_zero]
theorem a2e {es n:Nat} {row:List AV} (hl:row.length = (n + 2) * es):a06 es (.is row n (.cut (n + 2))) none (some (.int .i64 ((n + 2:Nat):Int))) = some (.is row (n + 2) (.cut (n + 2))):=by
 have h1:bnd n (n + 2) (some (.int .i64 ((n + 2:Nat):Int))) = some (n + 2):=bnd_nat (by omega)
 have h3:bnd 0 (n + 2) none = some 0:=rfl
 simp only [a06,Tok.most,h1,Option.bind_some,h3,hl,if_true,Tok.part,Nat.zero_mul,List.drop_zero,Nat.sub_zero]
theorem Lnt.open {w n:Nat} {r0 r1:List AV} {f:Nat→List AV→Prop} {v:AV} (h:Lnt w n r0 r1 f v) (hw:0 < w) (h0:r0.length = w) (h1:r1.length = w) :
  ∃ full,a06 w v none (some (.int .i64 ((n + 2:Nat):Int))) = some full∧ia w full (.int .i64 ((n:Nat):Int)) = some (.ip r0)∧ia w full (.int .i64 ((n + 1:Nat):Int)) = some (.ip r1):=by
 obtain ⟨row,rfl,h2,h3,h4⟩:=h
 have hlen:(row ++ (r0 ++ r1)).length = (n + 2) * w:=by rw [List.length_append,List.length_append,h2,h0,h1,Nat.add_mul]; omega
 refine ⟨_,a2e hlen,?_,?_⟩
 ·have hc:(n + 1) * w ≤ (row ++ (r0 ++ r1)).length:=by rw [hlen]; exact Nat.mul_le_mul_right w (by omega)
  simp only [ia,P9 (show n < n + 2 by omega),Option.bind_some,hc,if_true]
  rw [←h2,List.drop_left,←h0,List.take_left]
 ·have hc:(n + 1 + 1) * w ≤ (row ++ (r0 ++ r1)).length:=by rw [hlen]; exact Nat.le_refl _
  simp only [ia,P9 (show n + 1 < n + 2 by omega),Option.bind_some,hc,if_true]
  rw [show (n + 1) * w = row.length + r0.length by rw [h2,h0,Nat.add_mul,Nat.one_mul],List.drop_length_add_append,List.drop_left,←h1,List.take_length]
theorem a3x {w n bytes:Nat} (hw:0 < w) {f:Nat→List AV→Prop} {v:AV} (h:ElV w n f v) (hn:n ≤ 1050000) (hb:bytes ≤ 1000) (hcl:∀ i cs,f i cs→T7 cs) {r0 r1:List AV} (h0:r0.length = w) (h1:r1.length = w) (st:Sto) {c:Option (Out × Sto)} (hc:c = (X6 false false w bytes (.is [] 0 .full) v st).bind fun x=>some (gcT st (.ret x.1,x.2))) :
  ∃ t S y S' u,c = some (.ret t,S)∧X6 false false w bytes t (.is (r0 ++ r1) 2 .full) S = some (y,S')∧a06 w y none (some (.int .i64 ((n:Nat):Int))) = some u∧Lnt w n r0 r1 f u∧O5 st.length st S':=by
 obtain ⟨row,t1,t2,t3,t4⟩:=el_tail h st
 have hcr:T7 row:=chunk_mem hw t2 fun i hi x hx=>hcl i _ (t4 i hi) x hx
 have hr2:(r0 ++ r1).length = 2 * w:=by rw [List.length_append,h0,h1]; omega
 have htl:∀ S:Sto,T6 false w S (.is (r0 ++ r1) 2 .full) = some (r0 ++ r1,2):=fun S=>by simp only [T6,Bool.false_eq_true,if_false,rowOf,hr2,if_true]; rfl
 have hroom:∀ m,m ≤ n + 2→room bytes m = true:=fun m hm=>by
  have:m * bytes ≤ 1050002 * 1000:=Nat.mul_le_mul (by omega) hb
  simp [room]; omega
 have hlen:(row ++ (r0 ++ r1)).length = (n + 2) * w:=by rw [List.length_append,t2,hr2,Nat.add_mul]
 have hlnt:Lnt w n r0 r1 f (.is (row ++ (r0 ++ r1)) n (.cut (n + 2))):=⟨row,rfl,t2,hcr,t4⟩
 by_cases hz:n = 0
 ·subst hz
  have hrow:row = []:=List.eq_nil_of_length_eq_zero (by rw [t2]; omega)
  subst hrow
  have e1:X6 false false w bytes (.is [] 0 .full) v st = some (.is [] 0 .full,st):=by
   simp only [X6,t1,Option.bind_some,if_true]
  have e2:gcT st (.ret (.is [] 0 .full),st) = (.ret (.is [] 0 .full),st):=by
   unfold gcT
   rw [gc_keep rfl rfl (O5.refl _ _)]
  refine ⟨.is [] 0 .full,st, .is (r0 ++ r1) (0 + 2) (.tip st.length 0 w),st ++ [.tip 0],_,by rw [hc,e1,Option.bind_some,e2],?_,a0g (by simpa using hlen),hlnt,O5.app (Nat.le_refl _)⟩
  simp only [X6,htl,Option.bind_some,show ¬ (2 = 0) by omega,if_false,hroom (0 + 2) (by omega),List.length_nil,Nat.zero_mul,and_self,if_true,Bool.false_eq_true,List.nil_append]
 ·have e1:X6 false false w bytes (.is [] 0 .full) v st = some (.is row n (.tip st.length 0 w),st ++ [.tip 0]):=by
   simp only [X6,t1,Option.bind_some,hz,if_false,List.length_nil,Nat.zero_mul,Nat.zero_add,hroom n (by omega),and_self,if_true,List.nil_append,Bool.false_eq_true]
  have e2:=gcT_tip (es:=w) (len:=n) (g:=0) (hcr.strips st.length) (hcr.olds st.length) (Nat.le_refl _) (show (st ++ [Ob.tip 0])[st.length]? = some (.tip 0) by simp) (O5.app (Nat.le_refl _))
  have hg:(st ++ [Ob.tip 0])[st.length]? = some (.tip 0):=by simp
  refine ⟨.is row n (.tip st.length 0 w),st ++ [.tip 0], .is (row ++ (r0 ++ r1)) (n + 2) (.tip st.length (0 + 1) w),(st ++ [Ob.tip 0]).set st.length (Ob.tip (0 + 1)),_,by rw [hc,e1,Option.bind_some,e2],?_,a0g hlen,hlnt,(O5.app (Nat.le_refl _)).trans (O5.set (Nat.le_refl _))⟩
  simp only [X6,htl,Option.bind_some,t2,hroom (n + 2) (Nat.le_refl _),and_self,if_true,hg]
def rmA:List AV:=[.str ⟨#[126,114,111,111,109]⟩]
def rmB:List AV:=[.str ⟨#[126,98,101,104,105,110,100]⟩]
theorem V2 {v:AV} (h:Clean v):T7 [v]:=fun y hy=>by simp at hy; subst hy; exact h
theorem a22 {v w:AV} (h:Clean v) (k:Clean w):T7 [v,w]:=fun y hy=>by
 simp at hy
 rcases hy with rfl | rfl
 ·exact h
 ·exact k
def LTx (l:List ByteArray) (v:AV):Prop:=Lnt 1 l.length rmA rmB (fun i cs=>cs = [.str (l.getD i ⟨#[]⟩)]) v
theorem a4h {l:List ByteArray} {v:AV} (h:TxV l v) (hl:l.length ≤ 1050000) (st:Sto):∃ v',O1 ap 12 [v] st = some (.ret v',st)∧LTx l v'∧Clean v':=by
 have h0:(S8 false 0 1 (O9 (fun i=>some (i * 1,1)) [] []) st) = some (.is [] 0 .full,st):=rfl
 obtain ⟨t,S,y,S',u,e1,e2,e3,e4,e5⟩:=a3x (bytes:=16) (r0:=rmA) (r1:=rmB) (by omega) h hl (by omega) (fun i cs hf=>by subst hf; exact V2 (a3i _)) rfl rfl st (c:=O1 ap 26 [v] st) (by
  rw [B2.call,B2.b_eq,h0]
  simp only [Option.bind_some]
  cases X6 false false 1 16 (.is [] 0 .full) v st <;> rfl)
 have hcl:=e4.clean (V2 (a3i _)) (V2 (a3i _))
 refine ⟨u,?_,e4,hcl⟩
 rw [A9.call]
 refine O7 (st':=S') ?_ (hcl _).1 (hcl _).2 e5
 rw [A9.b_eq]
 refine (cr e1).trans ?_
 refine (br (show _ = some (AV.is (rmA ++ rmB) 2 .full,S) from rfl)).trans ?_
 refine (br e2).trans ?_
 refine (br h.1).trans ?_
 exact br e3
theorem a40 {l:List ByteArray} {v w:AV} (hv:TxV l v) (hw:TxV l w) (hl:l.length ≤ 1050000) (st:Sto):O1 ap 46 [v,w] st = some (.ret (.bool true),st):=by
 have loop:∀ (m i:Nat),i + m = l.length→r7.F0 v w ((i:Nat):Int) st = some ⟨.ret (.bool true),none,st⟩:=by
  intro m
  induction m with
  | zero=>
   intro i him
   rw [r7.F0_e]
   refine (br hv.1).trans ?_
   exact bf (O0 (by omega))
  | succ m ih=>
   intro i him
   have w1:IntKind.wrap .i64 (((i:Nat):Int) + 1) = ((i + 1:Nat):Int):=w64 _ (by omega) (by omega)
   obtain ⟨cs,hia,rfl⟩:=hv.2.2.2 i (by omega)
   obtain ⟨ds,hib,rfl⟩:=hw.2.2.2 i (by omega)
   have rx:∀ y:ByteArray,ld false 1 st (.ip [.str y]) = some (.str y):=fun _=>rfl
   rw [r7.F0_e]
   refine (br hv.1).trans ?_
   refine (bt (O4 (by omega))).trans ?_
   refine (br hia).trans ?_
   refine (br (rx _)).trans ?_
   refine (br hib).trans ?_
   refine (br (rx _)).trans ?_
   refine (br (aS _)).trans ?_
   refine (br (aS _)).trans ?_
   refine (bf (by rw [O4 rfl]; rfl)).trans ?_
   rw [w1]
   exact ih (i + 1) (by omega)
 rw [r7.call]
 refine O7 ?_ rfl rfl (O5.refl _ _)
 rw [r7.b_eq]
 refine (br hv.1).trans ?_
 refine (br hw.1).trans ?_
 refine (bf (by rw [O4 rfl]; rfl)).trans ?_
 exact loop l.length 0 (by omega)
theorem a4a {l:List ByteArray} {v w:AV} (hv:LTx l v) (hw:TxV l w) (hl:l.length ≤ 1050000) (st:Sto):O1 ap 21 [v,w] st = some (.ret (.bool true),st):=by
 obtain ⟨full,e1,e2,e3⟩:=hv.open (by omega) rfl rfl
 have w2:IntKind.wrap .i64 (((l.length:Nat):Int) + 2) = ((l.length + 2:Nat):Int):=w64 _ (by omega) (by omega)
 have w1:IntKind.wrap .i64 (((l.length:Nat):Int) + 1) = ((l.length + 1:Nat):Int):=w64 _ (by omega) (by omega)
 rw [B1.call]
 refine O7 ?_ rfl rfl (O5.refl _ _)
 rw [B1.b_eq]
 refine (br hv.el.1).trans ?_
 rw [w2]
 refine (br e1).trans ?_
 refine (cr (a40 hv.el hw hl st)).trans ?_
 refine (br (gB _)).trans ?_
 refine gs.trans ?_
 refine (bt rfl).trans ?_
 refine (br hw.1).trans ?_
 refine (br e2).trans ?_
 refine (br (show ld false 1 st (.ip rmA) = some (.str ⟨#[126,114,111,111,109]⟩) from rfl)).trans ?_
 refine (br (aS _)).trans ?_
 refine (bt (O4 rfl)).trans ?_
 refine (br hw.1).trans ?_
 rw [w1]
 refine (br e3).trans ?_
 refine (br (show ld false 1 st (.ip rmB) = some (.str ⟨#[126,98,101,104,105,110,100]⟩) from rfl)).trans ?_
 refine (br (aS _)).trans ?_
 rw [O4 rfl]
def rmC:List AV:=[.int .i64 (-7777)]
def rmD:List AV:=[.int .i64 (-8888)]
def LInt (l:List Int) (v:AV):Prop:=Lnt 1 l.length rmC rmD (fun i cs=>cs = [.int .i64 (l.getD i 0)]) v
theorem a1N {l:List Int} {v:AV} (h:W4 l v) (hl:l.length ≤ 1050000) (st:Sto):∃ v',O1 ap 55 [v] st = some (.ret v',st)∧LInt l v'∧Clean v':=by
 have h0:(S8 false 0 1 (O9 (fun i=>some (i * 1,1)) [] []) st) = some (.is [] 0 .full,st):=rfl
 obtain ⟨t,S,y,S',u,e1,e2,e3,e4,e5⟩:=a3x (bytes:=8) (r0:=rmC) (r1:=rmD) (by omega) h hl (by omega) (fun i cs hf=>by subst hf; exact V2 (R7 _)) rfl rfl st (c:=O1 ap 86 [v] st) (by
  rw [C7.call,C7.b_eq,h0]
  simp only [Option.bind_some]
  cases X6 false false 1 8 (.is [] 0 .full) v st <;> rfl)
 have hcl:=e4.clean (V2 (R7 _)) (V2 (R7 _))
 refine ⟨u,?_,e4,hcl⟩
 rw [C5.call]
 refine O7 (st':=S') ?_ (hcl _).1 (hcl _).2 e5
 rw [C5.b_eq]
 refine (cr e1).trans ?_
 refine (br (show _ = some (AV.is (rmC ++ rmD) 2 .full,S) from rfl)).trans ?_
 refine (br e2).trans ?_
 refine (br h.1).trans ?_
 exact br e3
theorem a0u {l:List Int} {v w:AV} (hv:W4 l v) (hw:W4 l w) (hl:l.length ≤ 1050000) (st:Sto):O1 ap 81 [v,w] st = some (.ret (.bool true),st):=by
 have loop:∀ (m i:Nat),i + m = l.length→w6.F0 v w ((i:Nat):Int) st = some ⟨.ret (.bool true),none,st⟩:=by
  intro m
  induction m with
  | zero=>
   intro i him
   rw [w6.F0_e]
   refine (br hv.1).trans ?_
   exact bf (O0 (by omega))
  | succ m ih=>
   intro i him
   have w1:IntKind.wrap .i64 (((i:Nat):Int) + 1) = ((i + 1:Nat):Int):=w64 _ (by omega) (by omega)
   obtain ⟨cs,hia,rfl⟩:=hv.2.2.2 i (by omega)
   obtain ⟨ds,hib,rfl⟩:=hw.2.2.2 i (by omega)
   have rx:∀ y:Int,ld false 1 st (.ip [.int .i64 y]) = some (.int .i64 y):=fun _=>rfl
   rw [w6.F0_e]
   refine (br hv.1).trans ?_
   refine (bt (O4 (by omega))).trans ?_
   refine (br hia).trans ?_
   refine (br (rx _)).trans ?_
   refine (br hib).trans ?_
   refine (br (rx _)).trans ?_
   refine (br (aI _)).trans ?_
   refine (br (aI _)).trans ?_
   refine (bf (by rw [O4 rfl]; rfl)).trans ?_
   rw [w1]
   exact ih (i + 1) (by omega)
 rw [w6.call]
 refine O7 ?_ rfl rfl (O5.refl _ _)
 rw [w6.b_eq]
 refine (br hv.1).trans ?_
 refine (br hw.1).trans ?_
 refine (bf (by rw [O4 rfl]; rfl)).trans ?_
 exact loop l.length 0 (by omega)
theorem a1u {l:List Int} {v w:AV} (hv:LInt l v) (hw:W4 l w) (hl:l.length ≤ 1050000) (st:Sto):O1 ap 83 [v,w] st = some (.ret (.bool true),st):=by
 obtain ⟨full,e1,e2,e3⟩:=hv.open (by omega) rfl rfl
 have w2:IntKind.wrap .i64 (((l.length:Nat):Int) + 2) = ((l.length + 2:Nat):Int):=w64 _ (by omega) (by omega)
 have w1:IntKind.wrap .i64 (((l.length:Nat):Int) + 1) = ((l.length + 1:Nat):Int):=w64 _ (by omega) (by omega)
 rw [C6.call]
 refine O7 ?_ rfl rfl (O5.refl _ _)
 rw [C6.b_eq]
 refine (br hv.el.1).trans ?_
 rw [w2]
 refine (br e1).trans ?_
 refine (cr (a0u hv.el hw hl st)).trans ?_
 refine (br (gB _)).trans ?_
 refine gs.trans ?_
 refine (bt rfl).trans ?_
 refine (br hw.1).trans ?_
 refine (br e2).trans ?_
 refine (br (show ld false 1 st (.ip rmC) = some (.int .i64 (-7777)) from rfl)).trans ?_
 refine (br (aI _)).trans ?_
 refine (bt (O4 rfl)).trans ?_
 refine (br hw.1).trans ?_
 rw [w1]
 refine (br e3).trans ?_
 refine (br (show ld false 1 st (.ip rmD) = some (.int .i64 (-8888)) from rfl)).trans ?_
 refine (br (aI _)).trans ?_
 rw [O4 rfl]
def rmE:List AV:=[.int .i64 (-7), .int .i64 0]
def LIns (c:List (Int × Int)) (v:AV):Prop:=Lnt 2 c.length rmE rmE (fun i cs=>cs = [.int .i64 (c.getD i (0,0)).1, .int .i64 (c.getD i (0,0)).2]) v
theorem LIns.ins {c:List (Int × Int)} {v:AV} (h:LIns c v):a19 c v:=el_ins h.el
theorem eq_ints (a b:Int):eqV .struct [.i, .i] false (.agg [.int .i64 a, .int .i64 b]) (.agg [.int .i64 a, .int .i64 b]) = some true:=by
 simp [eqV,a0n,eqF]
theorem a4j {c:List (Int × Int)} {v:AV} (h:a19 c v) (hl:c.length ≤ 1050000) (st:Sto):∃ v',O1 ap 27 [v] st = some (.ret v',st)∧LIns c v'∧Clean v':=by
 have h0:(S8 false 0 2 (O9 (fun i=>some (i * 2,2)) [] []) st) = some (.is [] 0 .full,st):=rfl
 obtain ⟨t,S,y,S',u,e1,e2,e3,e4,e5⟩:=a3x (bytes:=16) (r0:=rmE) (r1:=rmE) (by omega) (ins_el h) hl (by omega) (fun i cs hf=>by subst hf; exact a22 (R7 _) (R7 _)) rfl rfl st (c:=O1 ap 52 [v] st) (by
  rw [B8.call,B8.b_eq,h0]
  simp only [Option.bind_some]
  cases X6 false false 2 16 (.is [] 0 .full) v st <;> rfl)
 have hcl:=e4.clean (a22 (R7 _) (R7 _)) (a22 (R7 _) (R7 _))
 refine ⟨u,?_,e4,hcl⟩
 rw [B3.call]
 refine O7 (st':=S') ?_ (hcl _).1 (hcl _).2 e5
 rw [B3.b_eq]
 refine (cr e1).trans ?_
 refine (br (show _ = some (AV.agg rmE) from rfl)).trans ?_
 refine (br (show _ = some (AV.agg rmE) from rfl)).trans ?_
 refine (br (show _ = some (AV.is (rmE ++ rmE) 2 .full,S) from rfl)).trans ?_
 refine (br e2).trans ?_
 refine (br h.len).trans ?_
 exact br e3
theorem a44 {c:List (Int × Int)} {v w:AV} (hv:a19 c v) (hw:a19 c w) (hl:c.length ≤ 1050000) (st:Sto):O1 ap 76 [v,w] st = some (.ret (.bool true),st):=by
 have loop:∀ (m i:Nat),i + m = c.length→r8.F0 v w ((i:Nat):Int) st = some ⟨.ret (.bool true),none,st⟩:=by
  intro m
  induction m with
  | zero=>
   intro i him
   rw [r8.F0_e]
   refine (br hv.len).trans ?_
   exact bf (O0 (by omega))
  | succ m ih=>
   intro i him
   have w1:IntKind.wrap .i64 (((i:Nat):Int) + 1) = ((i + 1:Nat):Int):=w64 _ (by omega) (by omega)
   obtain ⟨cs,hia,rfl⟩:=(ins_el hv).2.2.2 i (by omega)
   obtain ⟨ds,hib,rfl⟩:=(ins_el hw).2.2.2 i (by omega)
   have rx:∀ a b:Int,ld true 2 st (.ip [.int .i64 a, .int .i64 b]) = some (.agg [.int .i64 a, .int .i64 b]):=fun _ _=>rfl
   rw [r8.F0_e]
   refine (br hv.len).trans ?_
   refine (bt (O4 (by omega))).trans ?_
   refine (br hia).trans ?_
   refine (br (rx _ _)).trans ?_
   refine (br hib).trans ?_
   refine (br (rx _ _)).trans ?_
   refine (br (eq_ints _ _)).trans ?_
   refine (bf rfl).trans ?_
   rw [w1]
   exact ih (i + 1) (by omega)
 rw [r8.call]
 refine O7 ?_ rfl rfl (O5.refl _ _)
 rw [r8.b_eq]
 refine (br hv.len).trans ?_
 refine (br hw.len).trans ?_
 refine (bf (by rw [O4 rfl]; rfl)).trans ?_
 exact loop c.length 0 (by omega)
theorem a3X {c:List (Int × Int)} {v w:AV} (hv:LIns c v) (hw:a19 c w) (hl:c.length ≤ 1050000) (st:Sto):O1 ap 47 [v,w] st = some (.ret (.bool true),st):=by
 obtain ⟨full,e1,e2,e3⟩:=Lnt.open hv (by omega) rfl rfl
 have w2:IntKind.wrap .i64 (((c.length:Nat):Int) + 2) = ((c.length + 2:Nat):Int):=w64 _ (by omega) (by omega)
 have w1:IntKind.wrap .i64 (((c.length:Nat):Int) + 1) = ((c.length + 1:Nat):Int):=w64 _ (by omega) (by omega)
 rw [B5.call]
 refine O7 ?_ rfl rfl (O5.refl _ _)
 rw [B5.b_eq]
 refine (br hv.el.1).trans ?_
 rw [w2]
 refine (br e1).trans ?_
 refine (cr (a44 hv.ins hw hl st)).trans ?_
 refine (br (gB _)).trans ?_
 refine gs.trans ?_
 refine (bt rfl).trans ?_
 refine (br hw.len).trans ?_
 refine (br e2).trans ?_
 refine (br (show ld true 2 st (.ip rmE) = some (.agg rmE) from rfl)).trans ?_
 refine (br (show _ = some (AV.agg rmE) from rfl)).trans ?_
 refine (br (eq_ints _ _)).trans ?_
 refine (bt rfl).trans ?_
 refine (br hw.len).trans ?_
 rw [w1]
 refine (br e3).trans ?_
 refine (br (show ld true 2 st (.ip rmE) = some (.agg rmE) from rfl)).trans ?_
 refine (br (show _ = some (AV.agg rmE) from rfl)).trans ?_
 exact br (eq_ints _ _)
end Go.Proofs.YtcgepgahgihojaaGreatDoor
namespace Go.Proofs.YtcgepgahgihojaaGreatDoor
open Go.St Go.Lib
set_option linter.unusedVariables false
set_option linter.unusedSimpArgs false
theorem lend_end {w n nn bytes:Nat} (hw:0 < w) {t:AV} {ms:List (List AV)} {st:Sto} {f:Nat→List AV→Prop} (ht:BufT w nn st t ms.flatten n) (hml:ms.length = n) (hmc:∀ m ∈ ms,m.length = w∧T7 m) (hf:∀ i,i < n→f i (ms.getD i [])) (hnn:nn ≤ st.length) (hn:n ≤ 1050000) (hb:bytes ≤ 1000) {r0 r1:List AV} (h0:r0.length = w) (h1:r1.length = w) :
  ∃ y S' u,X6 false false w bytes t (.is (r0 ++ r1) 2 .full) st = some (y,S')∧a06 w y none (some (.int .i64 ((n:Nat):Int))) = some u∧Lnt w n r0 r1 f u∧O5 nn st S':=by
 have hr2:(r0 ++ r1).length = 2 * w:=by rw [List.length_append,h0,h1]; omega
 have htl:T6 false w st (.is (r0 ++ r1) 2 .full) = some (r0 ++ r1,2):=by simp only [T6,Bool.false_eq_true,if_false,rowOf,hr2,if_true]; rfl
 have hroom:room bytes (n + 2) = true:=by
  have:(n + 2) * bytes ≤ 1050002 * 1000:=Nat.mul_le_mul (by omega) hb
  simp [room]; omega
 obtain ⟨y,S',a,hB,d,_⟩:=a1G (str:=false) ht hnn htl (by omega) hr2 hroom
 obtain ⟨i,g,rfl,g'⟩:∃ i g,y = .is (ms.flatten ++ (r0 ++ r1)) (n + 2) (.tip i g w)∧(ms.flatten ++ (r0 ++ r1)).length = (n + 2) * w:=by
  rcases hB with ⟨_,_,h⟩ | ⟨i,g,_,h,_,h'⟩
  ·omega
  ·exact ⟨i,g,h,h'⟩
 have hfl:ms.flatten.length = n * w:=by rw [a1Q (fun m hm=>(hmc m hm).1),hml]
 refine ⟨_,S',_,a,a0g g',⟨ms.flatten,rfl,hfl,clean_flat fun m hm=>(hmc m hm).2,fun i hi=>?_⟩,d⟩
 rw [flat_at (fun m hm=>(hmc m hm).1) (by omega)]
 exact hf i hi
def rmO:List AV:=[.int .i64 (-7), .int .i64 0, .int .i64 0, .int .i64 0, .nils]
theorem a4o:T7 rmO:=oc_clean (o:=⟨-7,0,0,0,[]⟩) X8
def LOpC (o:OpA) (cs:List AV):Prop:=∃ lv,cs = oc o lv∧LInt o.l lv
def LOps (os:List OpA) (v:AV):Prop:=Lnt 5 os.length rmO rmO (fun i cs=>LOpC (os.getD i default) cs) v
theorem ElV.mono {w n:Nat} {f g:Nat→List AV→Prop} {v:AV} (h:ElV w n f v) (k:∀ i cs,f i cs→g i cs):ElV w n g v:=⟨h.1,h.2.1,h.2.2.1,fun i hi=>by
 obtain ⟨cs,a,b⟩:=h.2.2.2 i hi
 exact ⟨cs,a,k i cs b⟩⟩
theorem LInt.int {l:List Int} {v:AV} (h:LInt l v):W4 l v:=Lnt.el h
theorem LOps.ops {os:List OpA} {v:AV} (h:LOps os v):a2U os v:=(Lnt.el h).mono fun i cs ⟨lv,a,b⟩=>⟨lv,a,b.int⟩
theorem lendOp_spec {o:OpA} {lv:AV} (h:W4 o.l lv) (hl:o.l.length ≤ 1050000) (st:Sto):∃ lv',O1 ap 85 [.agg (oc o lv)] st = some (.ret (.agg (oc o lv')),st)∧LInt o.l lv'∧Clean lv':=by
 obtain ⟨lv',c1,c2,c3⟩:=a1N h hl ((st ++ [Ob.cells 0 (oc o lv) 0]) ++ [Ob.cells 0 [.int .i64 0, .int .i64 0, .int .i64 0, .int .i64 0, .nils] 0])
 have c2':=c2.int
 refine ⟨lv',?_,c2,c3⟩
 rw [C9.call]
 refine two_ret (n:=5) (z:=[.int .i64 0, .int .i64 0, .int .i64 0, .int .i64 0, .nils]) rfl rfl (a2T c2') (oc_clean c3) ?_
 have e1:(st ++ [Ob.cells 0 (oc o lv) 0]).length = st.length + 1:=by simp
 rw [C9.b_eq,Q3,e1]
 refine (it (a2T h)).trans ?_
 refine (br (O8 (n:=4) (g:=0) (fz:=0) U0 rfl)).trans ?_
 refine (cr c1).trans ?_
 refine (br (U8 U0 (by show 4 < 5; omega) c2'.2.1 (T8 c2'.2.2.1))).trans ?_
 rw [set_mid]
 rfl
theorem lendOps_loop {os:List OpA} {v:AV} (h:a2U os v) (hl:os.length ≤ 1050000) (hll:∀ i,(os.getD i default).l.length ≤ 1050000) (n0:Nat):∀ (m i:Nat) (t:AV) (ms:List (List AV)) (st:Sto),i + m = os.length→n0 ≤ st.length→ms.length = i→(∀ j,j < i→LOpC (os.getD j default) (ms.getD j []))→(∀ x ∈ ms,x.length = 5∧T7 x)→BufT 5 n0 st t ms.flatten i →
  ∃ (u:AV) (st':Sto),w9.F0 v t ((i:Nat):Int) st = some ⟨.ret u,none,st'⟩∧LOps os u∧O5 n0 st st':=by
 intro m
 induction m with
 | zero=>
  intro i t ms st him hn hml hms hmc ht
  have hi:i = os.length:=by omega
  subst hi
  obtain ⟨y,S',u,a,b,c,d⟩:=lend_end (bytes:=56) (r0:=rmO) (r1:=rmO) (f:=fun i cs=>LOpC (os.getD i default) cs) (by omega) ht hml hmc hms hn hl (by omega) rfl rfl
  refine ⟨u,S',?_,c,d⟩
  rw [w9.F0_e]
  refine (br h.1).trans ?_
  refine (bf (O0 (by omega))).trans ?_
  refine (br (show _ = some (AV.agg rmO) from rfl)).trans ?_
  refine (br (show _ = some (AV.agg rmO) from rfl)).trans ?_
  refine (br (show _ = some (AV.is (rmO ++ rmO) 2 .full,st) from rfl)).trans ?_
  refine (br a).trans ?_
  refine (br h.1).trans ?_
  exact br b
 | succ m ih=>
  intro i t ms st him hn hml hms hmc ht
  have hi:i < os.length:=by omega
  obtain ⟨cs,hia,lv,rfl,hlv⟩:=h.2.2.2 i hi
  have w1:IntKind.wrap .i64 (((i:Nat):Int) + 1) = ((i + 1:Nat):Int):=w64 _ (by omega) (by omega)
  obtain ⟨lv',c1,c2,c3⟩:=lendOp_spec hlv (hll i) st
  have hlit:(S8 false 1 5 (O9 (fun i=>some (i * 5,5)) [.int .i64 0, .int .i64 0, .int .i64 0, .int .i64 0, .nils] [(0, .agg (oc (os.getD i default) lv'))]) st) = some (.is (oc (os.getD i default) lv') 1 .full,st):=by
   have:(O9 (fun i=>some (i * 5,5)) [.int .i64 0, .int .i64 0, .int .i64 0, .int .i64 0, .nils] [(0, .agg (oc (os.getD i default) lv'))]) = some (oc (os.getD i default) lv'):=by
    simp only [O9,Q3,a2T c2.int]
    rfl
   rw [this]
   rfl
  have htl:T6 false 5 st (.is (oc (os.getD i default) lv') 1 .full) = some (oc (os.getD i default) lv',1):=rfl
  obtain ⟨t1,st1,a,b,c,d⟩:=a1G (bytes:=56) (str:=false) ht hn htl (by omega) rfl (by simp [room]; omega)
  have hfl:ms.flatten ++ oc (os.getD i default) lv' = (ms ++ [oc (os.getD i default) lv']).flatten:=by simp
  rw [hfl] at b
  obtain ⟨u,st',e1,e2,e3⟩:=ih (i + 1) t1 (ms ++ [oc (os.getD i default) lv']) st1 (by omega) (by omega) (by simp [hml]) (fun j hj=>by
   by_cases hji:j < i
   ·rw [gd_app (by omega)]
    exact hms j hji
   ·have hj2:j = ms.length:=by omega
    rw [hj2,gd_last,hml]
    exact ⟨lv',rfl,c2⟩) (fun x hx=>by
   rcases List.mem_append.1 hx with hx | hx
   ·exact hmc x hx
   ·simp at hx; subst hx; exact ⟨rfl,oc_clean c3⟩) b
  refine ⟨u,st',?_,e2,c.trans e3⟩
  rw [w9.F0_e]
  refine (br h.1).trans ?_
  refine (bt (O4 (by omega))).trans ?_
  refine (br hia).trans ?_
  refine (br (show ld true 5 st (.ip (oc (os.getD i default) lv)) = some (.agg (oc (os.getD i default) lv)) from rfl)).trans ?_
  refine (cr c1).trans ?_
  refine (br hlit).trans ?_
  refine (br a).trans ?_
  rw [w1]
  exact e1
theorem lendOps_spec {os:List OpA} {v:AV} (h:a2U os v) (hl:os.length ≤ 1050000) (hll:∀ i,(os.getD i default).l.length ≤ 1050000) (st:Sto):∃ v',O1 ap 54 [v] st = some (.ret v',st)∧LOps os v'∧Clean v':=by
 obtain ⟨u,st',e1,e2,e3⟩:=lendOps_loop h hl hll st.length os.length 0 .nils [] st (by omega) (Nat.le_refl _) rfl (fun j hj=>absurd hj (by omega)) (by simp) (.inl ⟨rfl,rfl,rfl⟩)
 have hcl:=Lnt.clean e2 a4o a4o
 refine ⟨u,?_,e2,hcl⟩
 rw [w9.call,w9.b_eq]
 exact O7 e1 (hcl _).1 (hcl _).2 e3
theorem sameOp_spec {o:OpA} {lv lw:AV} (hv:W4 o.l lv) (hw:W4 o.l lw) (hl:o.l.length ≤ 1050000) (st:Sto):O1 ap 101 [.agg (oc o lv), .agg (oc o lw)] st = some (.ret (.bool true),st):=by
 have e1:(st ++ [Ob.cells 0 (oc o lv) 0]).length = st.length + 1:=by simp
 obtain ⟨S,hS⟩:∃ S,S = (st ++ [Ob.cells 0 (oc o lv) 0]) ++ [Ob.cells 0 (oc o lw) 0]:=⟨_,rfl⟩
 have ha:S[st.length]? = some (.cells 0 (oc o lv) 0):=by rw [hS]; exact U0
 have hb:S[st.length + 1]? = some (.cells 0 (oc o lw) 0):=by rw [hS,←e1]; exact P6
 rw [D0.call]
 refine O7 (st':=S) ?_ rfl rfl (by rw [hS,List.append_assoc]; exact O5.app (Nat.le_refl _))
 rw [D0.b_eq,Q3,Q3,e1,←hS]
 refine (it (a2T hv)).trans ?_
 refine (it (a2T hw)).trans ?_
 refine (br (O8 (n:=0) ha rfl)).trans ?_
 refine (br (O8 (n:=0) hb rfl)).trans ?_
 refine (br (aI _)).trans ?_
 refine (br (aI _)).trans ?_
 refine (bt (O4 rfl)).trans ?_
 refine (br (O8 (n:=1) ha rfl)).trans ?_
 refine (br (O8 (n:=1) hb rfl)).trans ?_
 refine (br (aI _)).trans ?_
 refine (br (aI _)).trans ?_
 refine (bt (O4 rfl)).trans ?_
 refine (br (O8 (n:=2) ha rfl)).trans ?_
 refine (br (O8 (n:=2) hb rfl)).trans ?_
 refine (br (aI _)).trans ?_
 refine (br (aI _)).trans ?_
 refine (bt (O4 rfl)).trans ?_
 refine (br (O8 (n:=3) ha rfl)).trans ?_
 refine (br (O8 (n:=3) hb rfl)).trans ?_
 refine (br (aI _)).trans ?_
 refine (br (aI _)).trans ?_
 refine (bt (O4 rfl)).trans ?_
 refine (br (O8 (n:=4) ha rfl)).trans ?_
 refine (br (O8 (n:=4) hb rfl)).trans ?_
 refine (cr (a0u hv hw hl S)).trans ?_
 exact br (aB _)
theorem keptOp_spec {o:OpA} {lv lw:AV} (hv:LInt o.l lv) (hw:W4 o.l lw) (hl:o.l.length ≤ 1050000) (st:Sto):O1 ap 102 [.agg (oc o lv), .agg (oc o lw)] st = some (.ret (.bool true),st):=by
 have e1:(st ++ [Ob.cells 0 (oc o lv) 0]).length = st.length + 1:=by simp
 obtain ⟨S,hS⟩:∃ S,S = (st ++ [Ob.cells 0 (oc o lv) 0]) ++ [Ob.cells 0 (oc o lw) 0]:=⟨_,rfl⟩
 have ha:S[st.length]? = some (.cells 0 (oc o lv) 0):=by rw [hS]; exact U0
 have hb:S[st.length + 1]? = some (.cells 0 (oc o lw) 0):=by rw [hS,←e1]; exact P6
 rw [D1.call]
 refine O7 (st':=S) ?_ rfl rfl (by rw [hS,List.append_assoc]; exact O5.app (Nat.le_refl _))
 rw [D1.b_eq,Q3,Q3,e1,←hS]
 refine (it (a2T hv.int)).trans ?_
 refine (it (a2T hw)).trans ?_
 refine (br (O8 (n:=0) ha rfl)).trans ?_
 refine (br (O8 (n:=0) hb rfl)).trans ?_
 refine (br (aI _)).trans ?_
 refine (br (aI _)).trans ?_
 refine (bt (O4 rfl)).trans ?_
 refine (br (O8 (n:=1) ha rfl)).trans ?_
 refine (br (O8 (n:=1) hb rfl)).trans ?_
 refine (br (aI _)).trans ?_
 refine (br (aI _)).trans ?_
 refine (bt (O4 rfl)).trans ?_
 refine (br (O8 (n:=2) ha rfl)).trans ?_
 refine (br (O8 (n:=2) hb rfl)).trans ?_
 refine (br (aI _)).trans ?_
 refine (br (aI _)).trans ?_
 refine (bt (O4 rfl)).trans ?_
 refine (br (O8 (n:=3) ha rfl)).trans ?_
 refine (br (O8 (n:=3) hb rfl)).trans ?_
 refine (br (aI _)).trans ?_
 refine (br (aI _)).trans ?_
 refine (bt (O4 rfl)).trans ?_
 refine (br (O8 (n:=4) ha rfl)).trans ?_
 refine (br (O8 (n:=4) hb rfl)).trans ?_
 refine (cr (a1u hv hw hl S)).trans ?_
 exact br (aB _)
theorem sameRmO (st:Sto):O1 ap 101 [.agg rmO, .agg rmO] st = some (.ret (.bool true),st):=sameOp_spec (o:=⟨-7,0,0,0,[]⟩) int0 int0 (Nat.zero_le _) st
theorem keptOps_spec {os:List OpA} {v w:AV} (hv:LOps os v) (hw:a2U os w) (hl:os.length ≤ 1050000) (hll:∀ i,(os.getD i default).l.length ≤ 1050000) (st:Sto):O1 ap 82 [v,w] st = some (.ret (.bool true),st):=by
 have hve:=Lnt.el hv
 have loop:∀ (m i:Nat),i + m = os.length→o7.F1 v w ((i:Nat):Int) st = some ⟨.ret (.bool true),none,st⟩:=by
  intro m
  induction m with
  | zero=>
   intro i him
   rw [o7.F1_e]
   refine (br hw.1).trans ?_
   exact bf (O0 (by omega))
  | succ m ih=>
   intro i him
   have w1:IntKind.wrap .i64 (((i:Nat):Int) + 1) = ((i + 1:Nat):Int):=w64 _ (by omega) (by omega)
   obtain ⟨cs,hia,lv,rfl,hlv⟩:=hve.2.2.2 i (by omega)
   obtain ⟨ds,hib,lw,rfl,hlw⟩:=hw.2.2.2 i (by omega)
   have rx:∀ x:AV,ld true 5 st (.ip (oc (os.getD i default) x)) = some (.agg (oc (os.getD i default) x)):=fun _=>rfl
   rw [o7.F1_e]
   refine (br hw.1).trans ?_
   refine (bt (O4 (by omega))).trans ?_
   refine (br hia).trans ?_
   refine (br (rx _)).trans ?_
   refine (br hib).trans ?_
   refine (br (rx _)).trans ?_
   refine (cr (keptOp_spec hlv hlw (hll i) st)).trans ?_
   refine (it rfl).trans ?_
   refine (br (aB _)).trans ?_
   refine (bf rfl).trans ?_
   rw [w1]
   exact ih (i + 1) (by omega)
 obtain ⟨full,e1,e2,e3⟩:=Lnt.open hv (by omega) rfl rfl
 have w2:IntKind.wrap .i64 (((os.length:Nat):Int) + 2) = ((os.length + 2:Nat):Int):=w64 _ (by omega) (by omega)
 have w1:IntKind.wrap .i64 (((os.length:Nat):Int) + 1) = ((os.length + 1:Nat):Int):=w64 _ (by omega) (by omega)
 rw [o7.call]
 refine O7 ?_ rfl rfl (O5.refl _ _)
 rw [o7.b_eq]
 refine (br hve.1).trans ?_
 rw [w2]
 refine (br e1).trans ?_
 refine (br hve.1).trans ?_
 refine (br hw.1).trans ?_
 refine (bf (by rw [O4 rfl]; rfl)).trans ?_
 refine (br hw.1).trans ?_
 refine (br e2).trans ?_
 refine (br (show ld true 5 st (.ip rmO) = some (.agg rmO) from rfl)).trans ?_
 refine (br (show _ = some (AV.agg rmO) from rfl)).trans ?_
 refine (cr (sameRmO st)).trans ?_
 refine (br (aB _)).trans ?_
 refine (bf rfl).trans ?_
 refine (br hw.1).trans ?_
 rw [w1]
 refine (br e3).trans ?_
 refine (br (show ld true 5 st (.ip rmO) = some (.agg rmO) from rfl)).trans ?_
 refine (br (show _ = some (AV.agg rmO) from rfl)).trans ?_
 refine (cr (sameRmO st)).trans ?_
 refine (br (aB _)).trans ?_
 rw [o7.F2_e]
 refine (bf rfl).trans ?_
 exact loop os.length 0 (by omega)
def rmP:List AV:=[.int .i64 (-7), .nils, .nils]
theorem a0Z {d:Int} {x y:AV} (hx:Clean x) (hy:Clean y):T7 [.int .i64 d,x,y]:=fun v hv=>by
 simp only [List.mem_cons,List.not_mem_nil,or_false] at hv
 rcases hv with rfl | rfl | rfl
 ·exact R7 _
 ·exact hx
 ·exact hy
theorem a3F {d:Int} {x y:AV} (hx:x.isCell = true) (hy:y.isCell = true):([AV.int .i64 d,x,y]).all AV.isCell = true:=by
 simp only [List.all_cons,List.all_nil,hx,hy,Bool.and_true]
 rfl
def LBlC (b:BlA) (cs:List AV):Prop:=∃ ov uv,cs = [.int .i64 b.depth,ov,uv]∧LOps b.ops ov∧LInt b.upd uv
def LBls (bs:List BlA) (v:AV):Prop:=Lnt 3 bs.length rmP rmP (fun i cs=>LBlC (bs.getD i default) cs) v
theorem LBls.bls {bs:List BlA} {v:AV} (h:LBls bs v):a3W bs v:=(Lnt.el h).mono fun i cs ⟨ov,uv,a,b,c⟩=>⟨ov,uv,a,b.ops,c.int⟩
structure OkB (b:BlA):Prop where
 o:b.ops.length ≤ 1050000
 l:∀ i,(b.ops.getD i default).l.length ≤ 1050000
 u:b.upd.length ≤ 1050000
theorem a42 {b:BlA} {ov uv:AV} (hov:a2U b.ops ov) (huv:W4 b.upd uv) (hb:OkB b) (st:Sto):∃ ov' uv',O1 ap 29 [.agg [.int .i64 b.depth,ov,uv]] st = some (.ret (.agg [.int .i64 b.depth,ov',uv']),st)∧LOps b.ops ov'∧LInt b.upd uv'∧Clean ov'∧Clean uv':=by
 obtain ⟨ov',c1,c2,c3⟩:=lendOps_spec hov hb.o hb.l ((st ++ [Ob.cells 0 [.int .i64 b.depth,ov,uv] 0]) ++ [Ob.cells 0 [.int .i64 0, .nils, .nils] 0])
 obtain ⟨uv',d1,d2,d3⟩:=a1N huv hb.u ((st ++ [Ob.cells 0 [.int .i64 b.depth,ov',uv] 0]) ++ [Ob.cells 0 [.int .i64 0, .nils, .nils] 0])
 have c2':=c2.ops
 have d2':=d2.int
 refine ⟨ov',uv',?_,c2,d2,c3,d3⟩
 rw [B4.call]
 refine two_ret (n:=3) (z:=[.int .i64 0, .nils, .nils]) rfl rfl (a3F c2'.2.1 d2'.2.1) (a0Z c3 d3) ?_
 have e1:(st ++ [Ob.cells 0 [.int .i64 b.depth,ov,uv] 0]).length = st.length + 1:=by simp
 rw [B4.b_eq,Q3,e1]
 refine (it (a3F hov.2.1 huv.2.1)).trans ?_
 refine (br (O8 (n:=1) (g:=0) (fz:=0) U0 rfl)).trans ?_
 refine (cr c1).trans ?_
 refine (br (U8 U0 (by show 1 < 3; omega) c2'.2.1 (T8 c2'.2.2.1))).trans ?_
 rw [set_mid]
 refine (br (O8 (n:=2) (g:=0) (fz:=0) U0 rfl)).trans ?_
 refine (cr d1).trans ?_
 refine (br (U8 U0 (by show 2 < 3; omega) d2'.2.1 (T8 d2'.2.2.1))).trans ?_
 rw [set_mid]
 rfl
theorem a3w {bs:List BlA} {v:AV} (h:a3W bs v) (hl:bs.length ≤ 1050000) (hok:∀ i,OkB (bs.getD i default)) (n0:Nat):∀ (m i:Nat) (t:AV) (ms:List (List AV)) (st:Sto),i + m = bs.length→n0 ≤ st.length→ms.length = i→(∀ j,j < i→LBlC (bs.getD j default) (ms.getD j []))→(∀ x ∈ ms,x.length = 3∧T7 x)→BufT 3 n0 st t ms.flatten i →
  ∃ (u:AV) (st':Sto),p8.F0 v t ((i:Nat):Int) st = some ⟨.ret u,none,st'⟩∧LBls bs u∧O5 n0 st st':=by
 intro m
 induction m with
 | zero=>
  intro i t ms st him hn hml hms hmc ht
  have hi:i = bs.length:=by omega
  subst hi
  obtain ⟨y,S',u,a,b,c,d⟩:=lend_end (bytes:=56) (r0:=rmP) (r1:=rmP) (f:=fun i cs=>LBlC (bs.getD i default) cs) (by omega) ht hml hmc hms hn hl (by omega) rfl rfl
  refine ⟨u,S',?_,c,d⟩
  rw [p8.F0_e]
  refine (br h.1).trans ?_
  refine (bf (O0 (by omega))).trans ?_
  refine (br (show _ = some (AV.agg rmP) from rfl)).trans ?_
  refine (br (show _ = some (AV.agg rmP) from rfl)).trans ?_
  refine (br (show _ = some (AV.is (rmP ++ rmP) 2 .full,st) from rfl)).trans ?_
  refine (br a).trans ?_
  refine (br h.1).trans ?_
  exact br b
 | succ m ih=>
  intro i t ms st him hn hml hms hmc ht
  have hi:i < bs.length:=by omega
  obtain ⟨cs,hia,ov,uv,rfl,hov,huv⟩:=h.2.2.2 i hi
  have w1:IntKind.wrap .i64 (((i:Nat):Int) + 1) = ((i + 1:Nat):Int):=w64 _ (by omega) (by omega)
  obtain ⟨ov',uv',c1,c2,c3,c4,c5⟩:=a42 hov huv (hok i) st
  obtain ⟨D,hD⟩:∃ D,D = (bs.getD i default).depth:=⟨_,rfl⟩
  rw [←hD] at c1 hia
  have hlit:(S8 false 1 3 (O9 (fun i=>some (i * 3,3)) [.int .i64 0, .nils, .nils] [(0, .agg [.int .i64 D,ov',uv'])]) st) = some (.is [.int .i64 D,ov',uv'] 1 .full,st):=by
   have:(O9 (fun i=>some (i * 3,3)) [.int .i64 0, .nils, .nils] [(0, .agg [.int .i64 D,ov',uv'])]) = some [.int .i64 D,ov',uv']:=by
    simp only [O9,Q3,a3F c2.ops.2.1 c3.int.2.1]
    rfl
   rw [this]
   rfl
  have htl:T6 false 3 st (.is [.int .i64 D,ov',uv'] 1 .full) = some ([.int .i64 D,ov',uv'],1):=rfl
  obtain ⟨t1,st1,a,b,c,d⟩:=a1G (bytes:=56) (str:=false) ht hn htl (by omega) rfl (by simp [room]; omega)
  have hfl:ms.flatten ++ [AV.int .i64 D,ov',uv'] = (ms ++ [[.int .i64 D,ov',uv']]).flatten:=by simp
  rw [hfl] at b
  obtain ⟨u,st',e1,e2,e3⟩:=ih (i + 1) t1 (ms ++ [[.int .i64 D,ov',uv']]) st1 (by omega) (by omega) (by simp [hml]) (fun j hj=>by
   by_cases hji:j < i
   ·rw [gd_app (by omega)]
    exact hms j hji
   ·have hj2:j = ms.length:=by omega
    rw [hj2,gd_last,hml]
    exact ⟨ov',uv',by rw [hD],c2,c3⟩) (fun x hx=>by
   rcases List.mem_append.1 hx with hx | hx
   ·exact hmc x hx
   ·simp at hx; subst hx; exact ⟨rfl,a0Z c4 c5⟩) b
  refine ⟨u,st',?_,e2,c.trans e3⟩
  rw [p8.F0_e]
  refine (br h.1).trans ?_
  refine (bt (O4 (by omega))).trans ?_
  refine (br hia).trans ?_
  refine (br (show ld true 3 st (.ip [.int .i64 D,ov,uv]) = some (.agg [.int .i64 D,ov,uv]) from rfl)).trans ?_
  refine (cr c1).trans ?_
  refine (br hlit).trans ?_
  refine (br a).trans ?_
  rw [w1]
  exact e1
theorem a3q {bs:List BlA} {v:AV} (h:a3W bs v) (hl:bs.length ≤ 1050000) (hok:∀ i,OkB (bs.getD i default)) (st:Sto):∃ v',O1 ap 15 [v] st = some (.ret v',st)∧LBls bs v'∧Clean v':=by
 obtain ⟨u,st',e1,e2,e3⟩:=a3w h hl hok st.length bs.length 0 .nils [] st (by omega) (Nat.le_refl _) rfl (fun j hj=>absurd hj (by omega)) (by simp) (.inl ⟨rfl,rfl,rfl⟩)
 have hcl:=Lnt.clean e2 (a0Z X8 X8) (a0Z X8 X8)
 refine ⟨u,?_,e2,hcl⟩
 rw [p8.call,p8.b_eq]
 exact O7 e1 (hcl _).1 (hcl _).2 e3
theorem sameOps_nil (st:Sto):O1 ap 80 [.nils, .nils] st = some (.ret (.bool true),st):=by
 rw [z7.call]
 refine O7 ?_ rfl rfl (O5.refl _ _)
 rw [z7.b_eq,z7.F0_e]
 rfl
theorem sameRmP (st:Sto):O1 ap 50 [.agg rmP, .agg rmP] st = some (.ret (.bool true),st):=by
 have e1:(st ++ [Ob.cells 0 rmP 0]).length = st.length + 1:=by simp
 obtain ⟨S,hS⟩:∃ S,S = (st ++ [Ob.cells 0 rmP 0]) ++ [Ob.cells 0 rmP 0]:=⟨_,rfl⟩
 have ha:S[st.length]? = some (.cells 0 rmP 0):=by rw [hS]; exact U0
 have hb:S[st.length + 1]? = some (.cells 0 rmP 0):=by rw [hS,←e1]; exact P6
 have hall:rmP.all AV.isCell = true:=rfl
 rw [B6.call]
 refine O7 (st':=S) ?_ rfl rfl (by rw [hS,List.append_assoc]; exact O5.app (Nat.le_refl _))
 rw [B6.b_eq,Q3,e1,←hS]
 refine (it hall).trans ?_
 refine (it hall).trans ?_
 refine (br (O8 (n:=0) ha rfl)).trans ?_
 refine (br (O8 (n:=0) hb rfl)).trans ?_
 refine (br (aI _)).trans ?_
 refine (br (aI _)).trans ?_
 refine (bt (O4 rfl)).trans ?_
 refine (br (O8 (n:=1) ha rfl)).trans ?_
 refine (br (O8 (n:=1) hb rfl)).trans ?_
 refine (cr (sameOps_nil S)).trans ?_
 refine (br (aB _)).trans ?_
 refine (bt rfl).trans ?_
 refine (br (O8 (n:=2) ha rfl)).trans ?_
 refine (br (O8 (n:=2) hb rfl)).trans ?_
 refine (cr (a0u int0 int0 (Nat.zero_le _) S)).trans ?_
 exact br (aB _)
theorem a48 {b:BlA} {ov uv ow uw:AV} (h1:LOps b.ops ov) (h2:LInt b.upd uv) (h3:a2U b.ops ow) (h4:W4 b.upd uw) (hb:OkB b) (st:Sto):O1 ap 51 [.agg [.int .i64 b.depth,ov,uv], .agg [.int .i64 b.depth,ow,uw]] st = some (.ret (.bool true),st):=by
 have e1:(st ++ [Ob.cells 0 [.int .i64 b.depth,ov,uv] 0]).length = st.length + 1:=by simp
 obtain ⟨S,hS⟩:∃ S,S = (st ++ [Ob.cells 0 [.int .i64 b.depth,ov,uv] 0]) ++ [Ob.cells 0 [.int .i64 b.depth,ow,uw] 0]:=⟨_,rfl⟩
 have ha:S[st.length]? = some (.cells 0 [.int .i64 b.depth,ov,uv] 0):=by rw [hS]; exact U0
 have hb':S[st.length + 1]? = some (.cells 0 [.int .i64 b.depth,ow,uw] 0):=by rw [hS,←e1]; exact P6
 rw [B7.call]
 refine O7 (st':=S) ?_ rfl rfl (by rw [hS,List.append_assoc]; exact O5.app (Nat.le_refl _))
 rw [B7.b_eq,Q3,Q3,e1,←hS]
 refine (it (a3F h1.ops.2.1 h2.int.2.1)).trans ?_
 refine (it (a3F h3.2.1 h4.2.1)).trans ?_
 refine (br (O8 (n:=0) ha rfl)).trans ?_
 refine (br (O8 (n:=0) hb' rfl)).trans ?_
 refine (br (aI _)).trans ?_
 refine (br (aI _)).trans ?_
 refine (bt (O4 rfl)).trans ?_
 refine (br (O8 (n:=1) ha rfl)).trans ?_
 refine (br (O8 (n:=1) hb' rfl)).trans ?_
 refine (cr (keptOps_spec h1 h3 hb.o hb.l S)).trans ?_
 refine (br (aB _)).trans ?_
 refine (bt rfl).trans ?_
 refine (br (O8 (n:=2) ha rfl)).trans ?_
 refine (br (O8 (n:=2) hb' rfl)).trans ?_
 refine (cr (a1u h2 h4 hb.u S)).trans ?_
 exact br (aB _)
theorem a3M {bs:List BlA} {v w:AV} (hv:LBls bs v) (hw:a3W bs w) (hl:bs.length ≤ 1050000) (hok:∀ i,OkB (bs.getD i default)) (st:Sto):O1 ap 24 [v,w] st = some (.ret (.bool true),st):=by
 have hve:=Lnt.el hv
 have loop:∀ (m i:Nat),i + m = bs.length→l5.F1 v w ((i:Nat):Int) st = some ⟨.ret (.bool true),none,st⟩:=by
  intro m
  induction m with
  | zero=>
   intro i him
   rw [l5.F1_e]
   refine (br hw.1).trans ?_
   exact bf (O0 (by omega))
  | succ m ih=>
   intro i him
   have w1:IntKind.wrap .i64 (((i:Nat):Int) + 1) = ((i + 1:Nat):Int):=w64 _ (by omega) (by omega)
   obtain ⟨cs,hia,ov,uv,rfl,hov,huv⟩:=hve.2.2.2 i (by omega)
   obtain ⟨ds,hib,ow,uw,rfl,how,huw⟩:=hw.2.2.2 i (by omega)
   have rx:∀ x y:AV,ld true 3 st (.ip [.int .i64 (bs.getD i default).depth,x,y]) = some (.agg [.int .i64 (bs.getD i default).depth,x,y]):=fun _ _=>rfl
   rw [l5.F1_e]
   refine (br hw.1).trans ?_
   refine (bt (O4 (by omega))).trans ?_
   refine (br hia).trans ?_
   refine (br (rx _ _)).trans ?_
   refine (br hib).trans ?_
   refine (br (rx _ _)).trans ?_
   refine (cr (a48 hov huv how huw (hok i) st)).trans ?_
   refine (it rfl).trans ?_
   refine (br (aB _)).trans ?_
   refine (bf rfl).trans ?_
   rw [w1]
   exact ih (i + 1) (by omega)
 obtain ⟨full,e1,e2,e3⟩:=Lnt.open hv (by omega) rfl rfl
 have w2:IntKind.wrap .i64 (((bs.length:Nat):Int) + 2) = ((bs.length + 2:Nat):Int):=w64 _ (by omega) (by omega)
 have w1:IntKind.wrap .i64 (((bs.length:Nat):Int) + 1) = ((bs.length + 1:Nat):Int):=w64 _ (by omega) (by omega)
 rw [l5.call]
 refine O7 ?_ rfl rfl (O5.refl _ _)
 rw [l5.b_eq]
 refine (br hve.1).trans ?_
 rw [w2]
 refine (br e1).trans ?_
 refine (br hve.1).trans ?_
 refine (br hw.1).trans ?_
 refine (bf (by rw [O4 rfl]; rfl)).trans ?_
 refine (br hw.1).trans ?_
 refine (br e2).trans ?_
 refine (br (show ld true 3 st (.ip rmP) = some (.agg rmP) from rfl)).trans ?_
 refine (br (show _ = some (AV.agg rmP) from rfl)).trans ?_
 refine (cr (sameRmP st)).trans ?_
 refine (br (aB _)).trans ?_
 refine (bf rfl).trans ?_
 refine (br hw.1).trans ?_
 rw [w1]
 refine (br e3).trans ?_
 refine (br (show ld true 3 st (.ip rmP) = some (.agg rmP) from rfl)).trans ?_
 refine (br (show _ = some (AV.agg rmP) from rfl)).trans ?_
 refine (cr (sameRmP st)).trans ?_
 refine (br (aB _)).trans ?_
 rw [l5.F2_e]
 refine (bf rfl).trans ?_
 exact loop bs.length 0 (by omega)
def LCdC (c:List (Int × Int)) (m:List AV):Prop:=∃ w,m = [w]∧LIns c w
def LCd (cs:List (List (Int × Int))) (v:AV):Prop:=Lnt 1 cs.length [.nils] [.nils] (fun i m=>LCdC (cs.getD i []) m) v
theorem LCd.cd {cs:List (List (Int × Int))} {v:AV} (h:LCd cs v):CdV cs v:=(Lnt.el h).mono fun i m ⟨w,a,b⟩=>⟨w,a,b.ins⟩
theorem a4b {cs:List (List (Int × Int))} {v:AV} (h:CdV cs v) (hl:cs.length ≤ 1050000) (hcl:∀ i,(cs.getD i []).length ≤ 1050000) (n0:Nat):∀ (m i:Nat) (t:AV) (ms:List (List AV)) (st:Sto),i + m = cs.length→n0 ≤ st.length→ms.length = i→(∀ j,j < i→LCdC (cs.getD j []) (ms.getD j []))→(∀ x ∈ ms,x.length = 1∧T7 x)→BufT 1 n0 st t ms.flatten i →
  ∃ (u:AV) (st':Sto),r6.F0 v t ((i:Nat):Int) st = some ⟨.ret u,none,st'⟩∧LCd cs u∧O5 n0 st st':=by
 intro m
 induction m with
 | zero=>
  intro i t ms st him hn hml hms hmc ht
  have hi:i = cs.length:=by omega
  subst hi
  obtain ⟨y,S',u,a,b,c,d⟩:=lend_end (bytes:=24) (r0:=[.nils]) (r1:=[.nils]) (f:=fun i m=>LCdC (cs.getD i []) m) (by omega) ht hml hmc hms hn hl (by omega) rfl rfl
  refine ⟨u,S',?_,c,d⟩
  rw [r6.F0_e]
  refine (br h.1).trans ?_
  refine (bf (O0 (by omega))).trans ?_
  refine (br (show _ = some (AV.is ([AV.nils] ++ [AV.nils]) 2 .full,st) from rfl)).trans ?_
  refine (br a).trans ?_
  refine (br h.1).trans ?_
  exact br b
 | succ m ih=>
  intro i t ms st him hn hml hms hmc ht
  have hi:i < cs.length:=by omega
  obtain ⟨ds,hia,cw,rfl,hcw⟩:=h.2.2.2 i hi
  have w1:IntKind.wrap .i64 (((i:Nat):Int) + 1) = ((i + 1:Nat):Int):=w64 _ (by omega) (by omega)
  obtain ⟨cw',c1,c2,c3⟩:=a4j hcw (hcl i) st
  have hcell:=c2.el.2.1
  have hcells:=T8 c2.el.2.2.1
  have hlit:(S8 false 1 1 (O9 (fun i=>some (i * 1,1)) [.nils] [(0,cw')]) st) = some (.is [cw'] 1 .full,st):=by
   have:(O9 (fun i=>some (i * 1,1)) [.nils] [(0,cw')]) = some [cw']:=by
    simp only [O9,hcells,List.all_cons,List.all_nil,hcell]
    rfl
   rw [this]
   rfl
  have htl:T6 false 1 st (.is [cw'] 1 .full) = some ([cw'],1):=rfl
  obtain ⟨t1,st1,a,b,c,d⟩:=a1G (bytes:=24) (str:=false) ht hn htl (by omega) rfl (by simp [room]; omega)
  have hfl:ms.flatten ++ [cw'] = (ms ++ [[cw']]).flatten:=by simp
  rw [hfl] at b
  obtain ⟨u,st',e1,e2,e3⟩:=ih (i + 1) t1 (ms ++ [[cw']]) st1 (by omega) (by omega) (by simp [hml]) (fun j hj=>by
   by_cases hji:j < i
   ·rw [gd_app (by omega)]
    exact hms j hji
   ·have hj2:j = ms.length:=by omega
    rw [hj2,gd_last,hml]
    exact ⟨cw',rfl,c2⟩) (fun x hx=>by
   rcases List.mem_append.1 hx with hx | hx
   ·exact hmc x hx
   ·simp at hx; subst hx; exact ⟨rfl,V2 c3⟩) b
  refine ⟨u,st',?_,e2,c.trans e3⟩
  rw [r6.F0_e]
  refine (br h.1).trans ?_
  refine (bt (O4 (by omega))).trans ?_
  refine (br hia).trans ?_
  refine (br (show ld false 1 st (.ip [cw]) = some cw from rfl)).trans ?_
  refine (cr c1).trans ?_
  refine (br hlit).trans ?_
  refine (br a).trans ?_
  rw [w1]
  exact e1
theorem a4c {cs:List (List (Int × Int))} {v:AV} (h:CdV cs v) (hl:cs.length ≤ 1050000) (hcl:∀ i,(cs.getD i []).length ≤ 1050000) (st:Sto):∃ v',O1 ap 13 [v] st = some (.ret v',st)∧LCd cs v'∧Clean v':=by
 obtain ⟨u,st',e1,e2,e3⟩:=a4b h hl hcl st.length cs.length 0 .nils [] st (by omega) (Nat.le_refl _) rfl (fun j hj=>absurd hj (by omega)) (by simp) (.inl ⟨rfl,rfl,rfl⟩)
 have hc:=Lnt.clean e2 (V2 X8) (V2 X8)
 refine ⟨u,?_,e2,hc⟩
 rw [r6.call,r6.b_eq]
 exact O7 e1 (hc _).1 (hc _).2 e3
theorem a3Z {cs:List (List (Int × Int))} {v w:AV} (hv:LCd cs v) (hw:CdV cs w) (hl:cs.length ≤ 1050000) (hcl:∀ i,(cs.getD i []).length ≤ 1050000) (st:Sto):O1 ap 22 [v,w] st = some (.ret (.bool true),st):=by
 have hve:=Lnt.el hv
 have loop:∀ (m i:Nat),i + m = cs.length→l8.F1 v w ((i:Nat):Int) st = some ⟨.ret (.bool true),none,st⟩:=by
  intro m
  induction m with
  | zero=>
   intro i him
   rw [l8.F1_e]
   refine (br hw.1).trans ?_
   exact bf (O0 (by omega))
  | succ m ih=>
   intro i him
   have w1:IntKind.wrap .i64 (((i:Nat):Int) + 1) = ((i + 1:Nat):Int):=w64 _ (by omega) (by omega)
   obtain ⟨ds,hia,cv,rfl,hcv⟩:=hve.2.2.2 i (by omega)
   obtain ⟨es,hib,cw,rfl,hcw⟩:=hw.2.2.2 i (by omega)
   have rx:∀ x:AV,ld false 1 st (.ip [x]) = some x:=fun _=>rfl
   rw [l8.F1_e]
   refine (br hw.1).trans ?_
   refine (bt (O4 (by omega))).trans ?_
   refine (br hia).trans ?_
   refine (br (rx _)).trans ?_
   refine (br hib).trans ?_
   refine (br (rx _)).trans ?_
   refine (cr (a3X hcv hcw (hcl i) st)).trans ?_
   refine (it rfl).trans ?_
   refine (br (aB _)).trans ?_
   refine (bf rfl).trans ?_
   rw [w1]
   exact ih (i + 1) (by omega)
 obtain ⟨full,e1,e2,e3⟩:=Lnt.open hv (by omega) rfl rfl
 have w2:IntKind.wrap .i64 (((cs.length:Nat):Int) + 2) = ((cs.length + 2:Nat):Int):=w64 _ (by omega) (by omega)
 have w1:IntKind.wrap .i64 (((cs.length:Nat):Int) + 1) = ((cs.length + 1:Nat):Int):=w64 _ (by omega) (by omega)
 have hnn:eqV .slice [] true .nils .nils = some true:=rfl
 rw [l8.call]
 refine O7 ?_ rfl rfl (O5.refl _ _)
 rw [l8.b_eq]
 refine (br hve.1).trans ?_
 rw [w2]
 refine (br e1).trans ?_
 refine (br hve.1).trans ?_
 refine (br hw.1).trans ?_
 refine (bf (by rw [O4 rfl]; rfl)).trans ?_
 refine (br hw.1).trans ?_
 refine (br e2).trans ?_
 refine (br (show ld false 1 st (.ip [.nils]) = some .nils from rfl)).trans ?_
 refine (br hnn).trans ?_
 refine (bf rfl).trans ?_
 refine (br hw.1).trans ?_
 rw [w1]
 refine (br e3).trans ?_
 refine (br (show ld false 1 st (.ip [.nils]) = some .nils from rfl)).trans ?_
 refine (br hnn).trans ?_
 rw [l8.F2_e]
 refine (bf rfl).trans ?_
 exact loop cs.length 0 (by omega)
end Go.Proofs.YtcgepgahgihojaaGreatDoor
namespace Go.Proofs.YtcgepgahgihojaaGreatDoor
open Go.St Go.Lib
set_option linter.unusedVariables false
set_option linter.unusedSimpArgs false
theorem a2j (n:Nat) (a b:List AV):strips n (a ++ b) = strips n a ++ strips n b:=by
 induction a with
 | nil=>rfl
 | cons x r ih=>simp only [List.cons_append,strips,ih]
theorem olds_app (n:Nat) (a b:List AV):olds n (a ++ b) = (olds n a && olds n b):=by
 induction a with
 | nil=>simp [olds]
 | cons x r ih=>simp only [List.cons_append,olds,ih,Bool.and_assoc]
open Go.St Go.Lib
set_option linter.unusedVariables false
set_option linter.unusedSimpArgs false
theorem bufT_addT {es bytes n:Nat} {st:Sto} {x:AV} {acc new:List AV} {len k:Nat} {str:Bool} {y:AV} (h:BufT es n st x acc len) (hn:n ≤ st.length) (hy:T6 str es st y = some (new,k)) (h0:0 < k) (hnew:new.length = k * es) (hr:room bytes (len + k) = true) :
  ∃ i g st',X6 false str es bytes x y st = some (.is (acc ++ new) (len + k) (.tip i g es),st')∧n ≤ i∧st'[i]? = some (.tip g)∧O5 n st st'∧st.length ≤ st'.length∧(∀ (j:Nat) (o:Ob),st[j]? = some o→(∀ g,o ≠ .tip g)→st'[j]? = some o)∧(acc ++ new).length = (len + k) * es:=by
 unfold X6
 simp only [hy,Option.bind_some]
 have hk:¬ k = 0:=by omega
 rcases h with ⟨rfl,rfl,rfl⟩ | ⟨i,g,hi,rfl,hst,hl⟩
 ·rw [Nat.zero_add] at *
  simp only [hk,if_false,hr,if_true,Bool.false_eq_true,List.nil_append]
  exact ⟨_,_,_,rfl,hn,by simp,O5.app hn,by simp,fun j o h _=>by
   rw [List.getElem?_append_left (List.getElem?_eq_some_iff.1 h).1]; exact h,by rw [hnew]⟩
 ·simp only [hl,true_and,hr,if_true,hst]
  refine ⟨_,_,_,rfl,hi,?_,O5.set hi,by simp,fun j o h ho=>?_,by rw [List.length_append,hl,hnew,Nat.add_mul]⟩
  ·rw [List.getElem?_set_self (List.getElem?_eq_some_iff.1 hst).1]
  ·by_cases hij:i = j
   ·subst hij
    rw [hst] at h
    cases h
    exact absurd rfl (ho g)
   ·rw [List.getElem?_set_ne hij]; exact h
theorem a1Z (n:Nat) (ats:List (ByteArray × ByteArray)):strips n (R5 ats) = R5 ats:=by
 induction ats with
 | nil=>rfl
 | cons x r ih=>simp only [R5,strips,AV.strip,ih]
theorem a3r (n:Nat) (ats:List (ByteArray × ByteArray)):olds n (R5 ats) = true:=by
 induction ats with
 | nil=>rfl
 | cons x r ih=>simp only [R5,olds,AV.old,ih,Bool.and_self]
theorem a2l.tail {ats:List (ByteArray × ByteArray)} {v:AV} (h:a2l ats v) (st:Sto):T6 false 2 st v = some (R5 ats,ats.length):=by
 rcases h with ⟨rfl,rfl⟩ | ⟨rest,tok,rfl⟩
 ·rfl
 ·have hl:=Z4 ats
  simp only [T6,Bool.false_eq_true,if_false,rowOf,List.length_append,hl]
  by_cases h0:rest = []
  ·subst h0
   simp
  ·have:0 < rest.length:=by cases rest with
    | nil=>exact absurd rfl h0
    | cons=>simp
   rw [if_neg (by omega),if_pos (by omega),←hl,List.take_left]
   rfl
def S7:List AV:=[.str ⟨#[126,114,111,111,109]⟩, .str ⟨#[]⟩]
def R0:List AV:=[.str ⟨#[126,114,111,111,109]⟩, .str ⟨#[]⟩, .nils, .nils]
def V9 (ats:List (ByteArray × ByteArray)):AV := .is (R5 ats ++ (S7 ++ S7)) ats.length (.cut (ats.length + 2))
def Q7:Fo→List AV
 | .nil=>[]
 | .cons tag text ats kids rest => .str tag :: .str text :: V9 ats :: .is (Q7 kids ++ (R0 ++ R0)) kids.len (.cut (kids.len + 2)) :: Q7 rest
def Q9 (ts:Fo):AV := .is (Q7 ts ++ (R0 ++ R0)) ts.len (.cut (ts.len + 2))
theorem a1V (ats:List (ByteArray × ByteArray)):a2l ats (V9 ats) := .inr ⟨_,_,rfl⟩
theorem a3a (ts:Fo):∀ r,Row ts (Q7 ts ++ r):=by
 induction ts with
 | nil=>intro r; trivial
 | cons tag text ats kids rest ihk ihr=>exact fun r=>⟨_,_,_,rfl,a1V _, .inr ⟨_,_,rfl,ihk _⟩,ihr r⟩
theorem lendF_fo (ts:Fo):FoV ts (Q9 ts) := .inr ⟨_,_,rfl,a3a ts _⟩
theorem a36 (ts:Fo):(Q7 ts).length = ts.len * 4:=by
 induction ts with
 | nil=>rfl
 | cons tag text ats kids rest ihk ihr=>simp only [Q7,List.length_cons,ihr,Fo.len]; omega
theorem a1n (n:Nat) (ats:List (ByteArray × ByteArray)):(V9 ats).strip n = V9 ats:=by
 simp only [V9,AV.strip,a2j,a1Z,Tok.strip]
 rfl
theorem a2Z (n:Nat) (ats:List (ByteArray × ByteArray)):(V9 ats).old n = true:=by
 simp only [V9,AV.old,olds_app,a3r,Tok.old]
 rfl
theorem a4k (n:Nat) (ts:Fo):strips n (Q7 ts) = Q7 ts:=by
 induction ts with
 | nil=>rfl
 | cons tag text ats kids rest ihk ihr=>
  simp only [Q7,strips,a1n,AV.strip,a2j,ihk,ihr,Tok.strip]
  rfl
theorem olds_lendRow (n:Nat) (ts:Fo):olds n (Q7 ts) = true:=by
 induction ts with
 | nil=>rfl
 | cons tag text ats kids rest ihk ihr=>
  simp only [Q7,olds,a2Z,AV.old,olds_app,ihk,ihr,Tok.old]
  rfl
theorem a1l (n:Nat) (ts:Fo):(Q9 ts).strip n = Q9 ts:=by
 simp only [Q9,AV.strip,a2j,a4k,Tok.strip]
 rfl
theorem a3O (n:Nat) (ts:Fo):(Q9 ts).old n = true:=by
 simp only [Q9,AV.old,olds_app,olds_lendRow,Tok.old]
 rfl
theorem a4i {ats:List (ByteArray × ByteArray)} {a:AV} (ha:a2l ats a) (hs:asz ats ≤ 1050000) (st:Sto) :
  (ats.length = 0∧O1 ap 84 [a] st = some (.ret (.is [] 0 .full),st)) ∨
  (0 < ats.length∧O1 ap 84 [a] st = some (.ret (.is (R5 ats) ats.length (.tip st.length 0 2)),st ++ [.tip 0])):=by
 have hl:=a23 ats
 have hroom:room 32 ats.length = true:=by simp [room]; omega
 have h0:(S8 false 0 2 (O9 (fun i=>some (i * 2,2)) [] []) st) = some (.is [] 0 .full,st):=rfl
 by_cases hz:ats.length = 0
 ·left
  refine ⟨hz,?_⟩
  rw [A1.call,A1.b_eq,h0]
  simp only [Option.bind_some,X6,ha.tail,hz,if_true]
  show some (gcT st (.ret (.is [] 0 .full),st)) = _
  unfold gcT
  rw [gc_keep rfl rfl (O5.refl _ _)]
 ·right
  refine ⟨by omega,?_⟩
  rw [A1.call,A1.b_eq,h0]
  simp only [Option.bind_some,X6,ha.tail,hz,if_false,Nat.zero_add,hroom,List.length_nil,Nat.zero_mul,and_self,if_true,Bool.false_eq_true,List.nil_append]
  rw [gcT_tip (a1Z _ _) (a3r _ _) (Nat.le_refl _) (by simp) (O5.app (Nat.le_refl _))]
theorem rooms_lit (st:Sto):(S8 false 2 2 (O9 (fun i=>some (i * 2,2)) [.str ⟨#[]⟩, .str ⟨#[]⟩, .str ⟨#[]⟩, .str ⟨#[]⟩] [(0, .agg S7),(1, .agg S7)]) st) = some (.is (S7 ++ S7) 2 .full,st):=rfl
theorem a3R:(X3 (O9 (fun i=>([(0,1),(1,1)]:List (Nat × Nat))[i]?) [.str ⟨#[]⟩, .str ⟨#[]⟩] [(0,(.str ⟨#[126,114,111,111,109]⟩))])) = some (.agg S7):=rfl
theorem roomT_agg:(X3 (O9 (fun i=>([(0,1),(1,1),(2,1),(3,1)]:List (Nat × Nat))[i]?) [.str ⟨#[]⟩, .str ⟨#[]⟩, .nils, .nils] [(0,(.str ⟨#[126,114,111,111,109]⟩))])) = some (.agg R0):=rfl
theorem a43 {ats:List (ByteArray × ByteArray)} {a:AV} (ha:a2l ats a) (hs:asz ats ≤ 1050000) (st:Sto):O1 ap 53 [a] st = some (.ret (V9 ats),st):=by
 have hl:=a23 ats
 have hc:=Z4 ats
 have hroom:∀ n,n ≤ ats.length + 2→room 32 n = true:=fun n hn=>by simp [room]; omega
 have ht:∀ s:Sto,T6 false 2 s (.is (S7 ++ S7) 2 .full) = some (S7 ++ S7,2):=fun _=>rfl
 suffices h:∃ st',A4.b a st = some ⟨.ret (V9 ats),none,st'⟩∧O5 st.length st st' by
  obtain ⟨st',h1,h2⟩:=h
  rw [A4.call]
  exact O7 h1 (a1n _ _) (a2Z _ _) h2
 rw [A4.b_eq]
 rcases a4i ha hs st with ⟨h0,h1⟩ | ⟨h0,h1⟩
 ·obtain rfl:=List.eq_nil_of_length_eq_zero h0
  have ha':X6 false false 2 32 (.is [] 0 .full) (.is (S7 ++ S7) 2 .full) st = some (.is (S7 ++ S7) (0 + 2) (.tip st.length 0 2),st ++ [.tip 0]):=by
   simp only [X6,ht,Option.bind_some,show ¬ (2 = 0) by omega,if_false,hroom (0 + 2) (by simp),List.length_nil,Nat.zero_mul,and_self,if_true,Bool.false_eq_true,List.nil_append]
  have hcut:=a0g (es:=2) (n:=0) (row:=S7 ++ S7) (i:=st.length) (g:=0) rfl
  simp only [h1,Option.bind_some,Out.on,a3R,rooms_lit,ha',ha.len,List.length_nil,hcut]
  exact ⟨_,rfl,O5.app (Nat.le_refl _)⟩
 ·have ha':X6 false false 2 32 (.is (R5 ats) ats.length (.tip st.length 0 2)) (.is (S7 ++ S7) 2 .full) (st ++ [.tip 0]) = some (.is (R5 ats ++ (S7 ++ S7)) (ats.length + 2) (.tip st.length (0 + 1) 2),(st ++ [Ob.tip 0]).set st.length (Ob.tip (0 + 1))):=by
   have hg:(st ++ [Ob.tip 0])[st.length]? = some (.tip 0):=by simp
   simp only [X6,ht,Option.bind_some,hc,hroom (ats.length + 2) (Nat.le_refl _),and_self,if_true,hg]
  have hcut:=a0g (es:=2) (n:=ats.length) (row:=R5 ats ++ (S7 ++ S7)) (i:=st.length) (g:=0 + 1) (by rw [List.length_append,hc]; simp [S7]; omega)
  simp only [h1,Option.bind_some,Out.on,a3R,rooms_lit,ha',ha.len,hcut]
  exact ⟨_,rfl,(O5.app (Nat.le_refl _)).trans (O5.set (Nat.le_refl _))⟩
theorem cell2 {ats:List (ByteArray × ByteArray)} {kids:Fo} {a k:AV} {tag text:ByteArray} (ha:a2l ats a) (hk:FoV kids k):([AV.str tag, .str text,a,k]).all AV.isCell = true:=by
 rcases ha with ⟨_,rfl⟩ | ⟨_,_,rfl⟩ <;> rcases hk with ⟨_,rfl⟩ | ⟨_,_,rfl,_⟩ <;> rfl
theorem get_last {st:Sto} {o z:Ob}:((st ++ [o]) ++ [z])[(st ++ [o]).length]? = some z:=by
 rw [List.getElem?_append_right (Nat.le_refl _)]
 simp
def LendOk (ts:Fo):Prop:=∀ (row:List AV) (n i:Nat) (tok:Tok) (st:Sto) (nn:Nat) (x:AV) (pre:List AV),Row ts (row.drop (i * 4))→n = i + ts.len→ts.sz ≤ 1050000→n ≤ 1050000→nn ≤ st.length→BufT 4 nn st x pre i →
 ∃ st',p2.F0 (.is row n tok) x ((i:Nat):Int) st = some ⟨.ret (.is ((pre ++ Q7 ts) ++ (R0 ++ R0)) n (.cut (n + 2))),none,st'⟩∧O5 nn st st'
theorem tail_rooms (st:Sto):T6 false 4 st (.is (R0 ++ R0) 2 .full) = some (R0 ++ R0,2):=rfl
theorem roomsT_lit (st:Sto):(S8 false 2 4 (O9 (fun i=>some (i * 4,4)) [.str ⟨#[]⟩, .str ⟨#[]⟩, .nils, .nils, .str ⟨#[]⟩, .str ⟨#[]⟩, .nils, .nils] [(0, .agg R0),(1, .agg R0)]) st) = some (.is (R0 ++ R0) 2 .full,st):=rfl
theorem lend_endT {row:List AV} {n:Nat} {t0:AV} {st:Sto} {nn:Nat} {x:AV} {pre:List AV} (hl0:P3 t0 = some n) (hb:n ≤ 1050000) (hnn:nn ≤ st.length) (hx:BufT 4 nn st x pre n) :
  ∃ st',p2.F0 t0 x ((n:Nat):Int) st = some ⟨.ret (.is (pre ++ (R0 ++ R0)) n (.cut (n + 2))),none,st'⟩∧O5 nn st st':=by
 obtain ⟨i,g,st',h1,h2,h3,h4,h5,h6,h7⟩:=bufT_addT (bytes:=80) (str:=false) hx hnn (tail_rooms st) (by omega) rfl (by simp [room]; omega)
 refine ⟨st',?_,h4⟩
 rw [p2.F0_e]
 simp only [hl0,Option.bind_some,Int.lt_irrefl,decide_false,cond_false,roomT_agg,roomsT_lit,h1,a0g h7]
theorem lend_of {ts:Fo} (H:LendOk ts) {v:AV} (hv:FoV ts v) (hs:ts.sz ≤ 1050000) (st:Sto):O1 ap 14 [v] st = some (.ret (Q9 ts),st):=by
 suffices h:∃ st',p2.b v st = some ⟨.ret (Q9 ts),none,st'⟩∧O5 st.length st st' by
  obtain ⟨st',h1,h2⟩:=h
  rw [p2.call]
  exact O7 h1 (a1l _ _) (a3O _ _) h2
 rw [p2.b_eq]
 rcases hv with ⟨h0,rfl⟩ | ⟨row,tok,rfl,hr⟩
 ·obtain rfl:=len_nil h0
  exact lend_endT (row:=[]) (n:=0) (pre:=[]) rfl (by omega) (Nat.le_refl _) (.inl ⟨rfl,rfl,rfl⟩)
 ·have hl:=a1b ts
  have:=H row ts.len 0 tok st st.length .nils [] (by simpa using hr) (by omega) hs (by omega) (Nat.le_refl _) (.inl ⟨rfl,rfl,rfl⟩)
  simpa [Q9] using this
theorem lendTree_of {tag text:ByteArray} {ats:List (ByteArray × ByteArray)} {kids:Fo} (H:LendOk kids) {a k:AV} (ha:a2l ats a) (hk:FoV kids k) (hs:asz ats ≤ 1050000) (hs2:kids.sz ≤ 1050000) (st:Sto) :
  O1 ap 28 [.agg [.str tag, .str text,a,k]] st = some (.ret (.agg [.str tag, .str text,V9 ats,Q9 kids]),st):=by
 suffices h:∃ st',A7.b (.agg [.str tag, .str text,a,k]) st = some ⟨.ret (.agg [.str tag, .str text,V9 ats,Q9 kids]),none,st'⟩∧O5 st.length st st' by
  obtain ⟨st',h1,h2⟩:=h
  rw [A7.call]
  refine O7 h1 ?_ ?_ h2
  ·simp only [AV.strip,strips,a1n,a1l]
  ·simp only [AV.old,olds,a2Z,a3O,Bool.and_self]
 have s1:sto 1 ((st ++ [Ob.cells 0 [.str tag, .str text,a,k] 0]) ++ [Ob.cells 0 [.str ⟨#[]⟩, .str ⟨#[]⟩, .nils, .nils] 0]) (.mp st.length 0 2) (V9 ats) = some ((st ++ [Ob.cells 0 [.str tag, .str text,V9 ats,k] 0]) ++ [Ob.cells 0 [.str ⟨#[]⟩, .str ⟨#[]⟩, .nils, .nils] 0]):=by
  rw [U8 U0 (by simp) rfl rfl,set_mid]
  rfl
 have s2:sto 1 ((st ++ [Ob.cells 0 [.str tag, .str text,V9 ats,k] 0]) ++ [Ob.cells 0 [.str ⟨#[]⟩, .str ⟨#[]⟩, .nils, .nils] 0]) (.mp st.length 0 3) (Q9 kids) = some ((st ++ [Ob.cells 0 [.str tag, .str text,V9 ats,Q9 kids] 0]) ++ [Ob.cells 0 [.str ⟨#[]⟩, .str ⟨#[]⟩, .nils, .nils] 0]):=by
  rw [U8 U0 (by simp) rfl rfl,set_mid]
  rfl
 have s3:=sto_all (st:=(st ++ [Ob.cells 0 [.str tag, .str text,V9 ats,Q9 kids] 0]) ++ [Ob.cells 0 [.str ⟨#[]⟩, .str ⟨#[]⟩, .nils, .nils] 0]) (cs':=[.str tag, .str text,V9 ats,Q9 kids]) (n:=4) get_last rfl rfl rfl
 have e1:(st ++ [Ob.cells 0 [AV.str tag, .str text,a,k] 0]).length = (st ++ [Ob.cells 0 [AV.str tag, .str text,V9 ats,Q9 kids] 0]).length:=by simp
 rw [A7.b_eq,Q3,if_pos (cell2 ha hk),e1]
 simp only [O8 (x:=a) (n:=2) (cs:=[.str tag, .str text,a,k]) U0 rfl,Option.bind_some,a43 ha hs,Out.on,s1,O8 (x:=k) (n:=3) (cs:=[.str tag, .str text,V9 ats,k]) U0 rfl,lend_of H hk hs2,s2,
  Z7 (n:=4) (cs:=[.str tag, .str text,V9 ats,Q9 kids]) (st:=(st ++ [Ob.cells 0 [.str tag, .str text,V9 ats,Q9 kids] 0]) ++ [Ob.cells 0 [.str ⟨#[]⟩, .str ⟨#[]⟩, .nils, .nils] 0]) U0 rfl,s3]
 rw [Z7 (n:=4) (cs:=[.str tag, .str text,V9 ats,Q9 kids]) (List.getElem?_set_self (by simp)) rfl]
 refine ⟨_,rfl,?_⟩
 rw [List.append_assoc]
 exact (O5.app (Nat.le_refl _)).trans (O5.set (by simp))
theorem lit_tree {cs:List AV} (hc:cs.all AV.isCell = true) (hl:cs.length = 4) (st:Sto):(S8 false 1 4 (O9 (fun i=>some (i * 4,4)) [.str ⟨#[]⟩, .str ⟨#[]⟩, .nils, .nils] [(0, .agg cs)]) st) = some (.is cs 1 .full,st):=by
 have h1:(AV.cells (.agg cs)) = cs:=rfl
 simp only [O9,h1,hl,hc,Nat.zero_mul,Nat.zero_add,List.length_cons,List.length_nil,Nat.le_refl,and_self,if_true,S8,Option.bind_some,Bool.false_eq_true,if_false,splice,List.take_zero,List.nil_append]
 simp
theorem tail_tree {cs:List AV} (hl:cs.length = 4) (st:Sto):T6 false 4 st (.is cs 1 .full) = some (cs,1):=by
 simp [T6,rowOf,hl]
theorem lend_all (ts:Fo):LendOk ts:=by
 induction ts with
 | nil=>
  intro row n i tok st nn x pre hr hn hs hb hnn hx
  simp only [Fo.len,Nat.add_zero] at hn
  subst hn
  obtain ⟨st',h1,h2⟩:=lend_endT (row:=row) (t0 := .is row n tok) rfl hb hnn hx
  exact ⟨st',by simpa [Q7] using h1,h2⟩
 | cons tag text ats kids rest ihk ihr=>
  intro row n i tok st nn x pre hr hn hs hb hnn hx
  simp only [Fo.len] at hn
  simp only [Fo.sz] at hs
  obtain ⟨a,k,ha,hk,hr',hlen,hia⟩:=a4J hr
  have hia:=hia n tok (by omega)
  have wi:IntKind.wrap .i64 ((i:Int) + 1) = ((i + 1:Nat):Int):=w64 _ (by omega) (by omega)
  have hlt:(((i:Nat):Int) < ((n:Nat):Int)):=by omega
  have hcell:([AV.str tag, .str text,V9 ats,Q9 kids]).all AV.isCell = true:=rfl
  obtain ⟨j,g,s1,h1,h2,h3,h4,h5,h6,h7⟩:=bufT_addT (bytes:=80) (str:=false) hx hnn (tail_tree (cs:=[.str tag, .str text,V9 ats,Q9 kids]) rfl st) (by omega) rfl (by simp [room]; omega)
  obtain ⟨st',m1,m2⟩:=ihr row n (i + 1) tok s1 nn _ _ hr' (by omega) (by omega) hb (Nat.le_trans hnn h5) (.inr ⟨j,g,h2,rfl,h3,h7⟩)
  refine ⟨st',?_,h4.trans m2⟩
  rw [p2.F0_e]
  simp only [P3,Option.bind_some,hlt,decide_true,cond_true,hia,l4,lendTree_of ihk ha hk (show asz ats ≤ 1050000 by omega) (show kids.sz ≤ 1050000 by omega),Out.on,lit_tree hcell rfl,h1,wi]
  rw [m1]
  simp [Q7,Q9]
theorem a4e {ts:Fo} {v:AV} (hv:FoV ts v) (hs:ts.sz ≤ 1050000) (st:Sto):O1 ap 14 [v] st = some (.ret (Q9 ts),st):=lend_of (lend_all ts) hv hs st
open Go.St Go.Lib
set_option linter.unusedVariables false
set_option linter.unusedSimpArgs false
theorem eq_self2 (a b:ByteArray):eqV .struct [.s, .s] false (.agg [.str a, .str b]) (.agg [.str a, .str b]) = some true:=by
 simp [eqV,a0n,eqF]
theorem same_loop {ats:List (ByteArray × ByteArray)} {v w:AV} (hv:a2l ats v) (hw:a2l ats w) (hs:asz ats ≤ 1050000) (st:Sto) :
  ∀ (suf pre:List (ByteArray × ByteArray)),ats = pre ++ suf→r9.F0 v w ((pre.length:Nat):Int) st = some ⟨.ret (.bool true),none,st⟩:=by
 intro suf
 induction suf with
 | nil=>
  intro pre hp
  rw [List.append_nil] at hp
  subst hp
  rw [r9.F0_e]
  simp only [hv.len,Option.bind_some,Int.lt_irrefl,decide_false,cond_false]
 | cons x r ih=>
  intro pre hp
  subst hp
  have hlen:(pre ++ x :: r).length ≤ 525000:=by have:=a23 (pre ++ x :: r); omega
  have hlt:(((pre.length:Nat):Int) < (((pre ++ x :: r).length:Nat):Int)):=by simp; omega
  have hwr:IntKind.wrap .i64 (((pre.length:Nat):Int) + 1) = (((pre ++ [x]).length:Nat):Int):=by
   rw [w64 (pre.length + 1) (by omega) (by simp at hlen ⊢; omega)]
   simp
  have nxt:=ih (pre ++ [x]) (by simp)
  rw [r9.F0_e]
  simp only [hv.len,Option.bind_some,hlt,decide_true,cond_true,a26 hv rfl,a26 hw rfl,l2,eq_self2,Bool.not_true,cond_false,hwr,nxt]
theorem a1a {ats:List (ByteArray × ByteArray)} {v w:AV} (hv:a2l ats v) (hw:a2l ats w) (hs:asz ats ≤ 1050000) (st:Sto):O1 ap 77 [v,w] st = some (.ret (.bool true),st):=by
 have:=same_loop hv hw hs st ats [] rfl
 simp only [List.length_nil,Int.natCast_zero] at this
 rw [r9.call]
 refine O7 ?_ rfl rfl (O5.refl _ _)
 rw [r9.b_eq]
 simp only [hv.len,hw.len,Option.bind_some,decide_true,Bool.not_true,cond_false,this]
theorem sameNil_spec (st:Sto):O1 ap 78 [.nils, .nils] st = some (.ret (.bool true),st):=by
 rw [y2.call]
 refine O7 ?_ rfl rfl (O5.refl _ _)
 rw [y2.b_eq,y2.F0_e]
 rfl
theorem sameRoom_spec (st:Sto):O1 ap 48 [.agg R0, .agg R0] st = some (.ret (.bool true),st):=by
 have hc:R0.all AV.isCell = true:=rfl
 have e:(st ++ [Ob.cells 0 R0 0]).length = (st ++ [Ob.cells 0 R0 0]).length:=rfl
 have a0:=fun n x (h:R0[n]? = some x)=>O8 (st:=(st ++ [Ob.cells 0 R0 0]) ++ [Ob.cells 0 R0 0]) (x:=x) (n:=n) (g:=0) (fz:=0) U0 h
 have b0:=fun n x (h:R0[n]? = some x)=>O8 (st:=(st ++ [Ob.cells 0 R0 0]) ++ [Ob.cells 0 R0 0]) (x:=x) (n:=n) (g:=0) (fz:=0) get_last h
 have hn:a2l [] .nils := .inl ⟨rfl,rfl⟩
 rw [C3.call]
 refine O7 (st':=(st ++ [Ob.cells 0 R0 0]) ++ [Ob.cells 0 R0 0]) ?_ rfl rfl (by rw [List.append_assoc]; exact O5.app (Nat.le_refl _))
 rw [C3.b_eq,Q3,if_pos hc,if_pos hc]
 simp only [a0 0 _ rfl,b0 0 _ rfl,a0 1 _ rfl,b0 1 _ rfl,a0 2 _ rfl,b0 2 _ rfl,a0 3 _ rfl,b0 3 _ rfl,Option.bind_some,asS,decide_true,cond_true,a1a hn hn (by simp [asz]),Out.on,asB,sameNil_spec]
theorem a4d {ats:List (ByteArray × ByteArray)} {a:AV} (ha:a2l ats a) (hs:asz ats ≤ 1050000) (st:Sto):O1 ap 79 [V9 ats,a] st = some (.ret (.bool true),st):=by
 have hl:=a23 ats
 have hc:=Z4 ats
 have hlen:(R5 ats ++ (S7 ++ S7)).length = (ats.length + 2) * 2:=by rw [List.length_append,hc]; simp [S7]; omega
 have hw:IntKind.wrap .i64 (((ats.length:Nat):Int) + 2) = ((ats.length + 2:Nat):Int):=w64 _ (by omega) (by omega)
 have hw1:IntKind.wrap .i64 (((ats.length:Nat):Int) + 1) = ((ats.length + 1:Nat):Int):=w64 _ (by omega) (by omega)
 have hcut:a06 2 (V9 ats) none (some (.int .i64 ((ats.length + 2:Nat):Int))) = some (.is (R5 ats ++ (S7 ++ S7)) (ats.length + 2) (.cut (ats.length + 2))):=a2e hlen
 have i0:ia 2 (.is (R5 ats ++ (S7 ++ S7)) (ats.length + 2) (.cut (ats.length + 2))) (.int .i64 ((ats.length:Nat):Int)) = some (.ip S7):=by
  have h1:(ats.length + 1) * 2 ≤ (R5 ats ++ (S7 ++ S7)).length:=by rw [hlen]; omega
  simp only [ia,P9 (show ats.length < ats.length + 2 by omega),Option.bind_some,h1,if_true]
  rw [←hc,List.drop_left]
  rfl
 have i1:ia 2 (.is (R5 ats ++ (S7 ++ S7)) (ats.length + 2) (.cut (ats.length + 2))) (.int .i64 ((ats.length + 1:Nat):Int)) = some (.ip S7):=by
  have h1:(ats.length + 1 + 1) * 2 ≤ (R5 ats ++ (S7 ++ S7)).length:=by rw [hlen]; omega
  simp only [ia,P9 (show ats.length + 1 < ats.length + 2 by omega),Option.bind_some,h1,if_true]
  rw [show (ats.length + 1) * 2 = (R5 ats).length + 2 by rw [hc]; omega,←List.drop_drop,List.drop_left]
  rfl
 have ldr:∀ s:Sto,ld true 2 s (.ip S7) = some (.agg S7):=fun _=>rfl
 have eqr:eqV .struct [.s, .s] false (.agg S7) (.agg S7) = some true:=eq_self2 _ _
 rw [B9.call]
 refine O7 ?_ rfl rfl (O5.refl _ _)
 rw [B9.b_eq]
 simp only [(a1V ats).len,ha.len,Option.bind_some,hw,hw1,hcut,a1a (a1V ats) ha hs,Out.on,R3,gOn,cond_true,i0,i1,ldr,a3R,eqr]
def KeptOk (ts:Fo):Prop:=∀ (row row':List AV) (n i:Nat) (tok tok':Tok) (st:Sto),(∃ r,row'.drop (i * 4) = Q7 ts ++ r)→Row ts (row.drop (i * 4))→n = i + ts.len→ts.sz ≤ 1050000→n ≤ 1050000 →
 l6.F1 (.is row' n tok') (.is row n tok) ((i:Nat):Int) st = some ⟨.ret (.bool true),none,st⟩
theorem kept_of {ts:Fo} (H:KeptOk ts) {v:AV} (hv:FoV ts v) (hs:ts.sz ≤ 1050000) (st:Sto):O1 ap 23 [Q9 ts,v] st = some (.ret (.bool true),st):=by
 have hl:=a1b ts
 have hc:=a36 ts
 have hlen:(Q7 ts ++ (R0 ++ R0)).length = (ts.len + 2) * 4:=by rw [List.length_append,hc]; simp [R0]; omega
 have hw:IntKind.wrap .i64 (((ts.len:Nat):Int) + 2) = ((ts.len + 2:Nat):Int):=w64 _ (by omega) (by omega)
 have hw1:IntKind.wrap .i64 (((ts.len:Nat):Int) + 1) = ((ts.len + 1:Nat):Int):=w64 _ (by omega) (by omega)
 have hcut:a06 4 (Q9 ts) none (some (.int .i64 ((ts.len + 2:Nat):Int))) = some (.is (Q7 ts ++ (R0 ++ R0)) (ts.len + 2) (.cut (ts.len + 2))):=a2e hlen
 have i0:ia 4 (.is (Q7 ts ++ (R0 ++ R0)) (ts.len + 2) (.cut (ts.len + 2))) (.int .i64 ((ts.len:Nat):Int)) = some (.ip R0):=by
  have h1:(ts.len + 1) * 4 ≤ (Q7 ts ++ (R0 ++ R0)).length:=by rw [hlen]; omega
  simp only [ia,P9 (show ts.len < ts.len + 2 by omega),Option.bind_some,h1,if_true]
  rw [←hc,List.drop_left]
  rfl
 have i1:ia 4 (.is (Q7 ts ++ (R0 ++ R0)) (ts.len + 2) (.cut (ts.len + 2))) (.int .i64 ((ts.len + 1:Nat):Int)) = some (.ip R0):=by
  have h1:(ts.len + 1 + 1) * 4 ≤ (Q7 ts ++ (R0 ++ R0)).length:=by rw [hlen]; omega
  simp only [ia,P9 (show ts.len + 1 < ts.len + 2 by omega),Option.bind_some,h1,if_true]
  rw [show (ts.len + 1) * 4 = (Q7 ts).length + 4 by rw [hc]; omega,←List.drop_drop,List.drop_left]
  rfl
 have ldr:∀ s:Sto,ld true 4 s (.ip R0) = some (.agg R0):=fun _=>rfl
 rw [l6.call]
 refine O7 ?_ rfl rfl (O5.refl _ _)
 rw [l6.b_eq]
 simp only [(lendF_fo ts).len,hv.len,Option.bind_some,hw,hw1,hcut,decide_true,Bool.not_true,cond_false,i0,i1,ldr,roomT_agg,sameRoom_spec,Out.on,asB,l6.F2_e]
 rcases hv with ⟨h0,rfl⟩ | ⟨row,tok,rfl,hr⟩
 ·obtain rfl:=len_nil h0
  rw [l6.F1_e]
  simp [P3]
 ·have:=H row (Q7 ts ++ (R0 ++ R0)) ts.len 0 tok (.cut (ts.len + 2)) st ⟨R0 ++ R0,by simp⟩ (by simpa using hr) (by omega) hs (by omega)
  simpa [Q9] using this
theorem keptTree_of {tag text:ByteArray} {ats:List (ByteArray × ByteArray)} {kids:Fo} (H:KeptOk kids) {a k:AV} (ha:a2l ats a) (hk:FoV kids k) (hs:asz ats ≤ 1050000) (hs2:kids.sz ≤ 1050000) (st:Sto) :
  O1 ap 49 [.agg [.str tag, .str text,V9 ats,Q9 kids], .agg [.str tag, .str text,a,k]] st = some (.ret (.bool true),st):=by
 have a0:=fun n x (h:[AV.str tag, .str text,V9 ats,Q9 kids][n]? = some x)=>O8 (st:=(st ++ [Ob.cells 0 [AV.str tag, .str text,V9 ats,Q9 kids] 0]) ++ [Ob.cells 0 [.str tag, .str text,a,k] 0]) (x:=x) (n:=n) (g:=0) (fz:=0) U0 h
 have b0:=fun n x (h:[AV.str tag, .str text,a,k][n]? = some x)=>O8 (st:=(st ++ [Ob.cells 0 [AV.str tag, .str text,V9 ats,Q9 kids] 0]) ++ [Ob.cells 0 [.str tag, .str text,a,k] 0]) (x:=x) (n:=n) (g:=0) (fz:=0) get_last h
 rw [C4.call]
 refine O7 (st':=(st ++ [Ob.cells 0 [AV.str tag, .str text,V9 ats,Q9 kids] 0]) ++ [Ob.cells 0 [.str tag, .str text,a,k] 0]) ?_ rfl rfl (by rw [List.append_assoc]; exact O5.app (Nat.le_refl _))
 rw [C4.b_eq,Q3,Q3,if_pos (cell2 (a1V ats) (lendF_fo kids)),if_pos (cell2 ha hk)]
 simp only [a0 0 _ rfl,b0 0 _ rfl,a0 1 _ rfl,b0 1 _ rfl,a0 2 _ rfl,b0 2 _ rfl,a0 3 _ rfl,b0 3 _ rfl,Option.bind_some,asS,decide_true,cond_true,a4d ha hs,Out.on,asB,kept_of H hk hs2]
theorem kept_all (ts:Fo):KeptOk ts:=by
 induction ts with
 | nil=>
  intro row row' n i tok tok' st hr' hr hn hs hb
  simp only [Fo.len] at hn
  rw [l6.F1_e]
  have hlt:¬ (((i:Nat):Int) < ((n:Nat):Int)):=by omega
  simp only [P3,Option.bind_some,hlt,decide_false,cond_false]
 | cons tag text ats kids rest ihk ihr=>
  intro row row' n i tok tok' st hr' hr hn hs hb
  simp only [Fo.len] at hn
  simp only [Fo.sz] at hs
  obtain ⟨a,k,ha,hk,hr2,hlen,hia⟩:=a4J hr
  have hia:=hia n tok (by omega)
  obtain ⟨r,hr'⟩:=hr'
  have hl':(row'.drop (i * 4)).length = (Q7 rest).length + r.length + 4:=by rw [hr']; simp only [Q7,List.cons_append,List.length_cons,List.length_append]
  rw [List.length_drop] at hl'
  have hia':ia 4 (.is row' n tok') (.int .i64 (i:Int)) = some (.ip [.str tag, .str text,V9 ats,Q9 kids]):=by
   have hc:(i + 1) * 4 ≤ row'.length:=by omega
   simp only [ia,P9 (show i < n by omega),Option.bind_some,hc,if_true]
   rw [hr']
   rfl
  have hd:row'.drop ((i + 1) * 4) = Q7 rest ++ r:=by
   rw [show (i + 1) * 4 = i * 4 + 4 by omega,←List.drop_drop,hr']
   rfl
  have wi:IntKind.wrap .i64 ((i:Int) + 1) = ((i + 1:Nat):Int):=w64 _ (by omega) (by omega)
  have hlt:(((i:Nat):Int) < ((n:Nat):Int)):=by omega
  rw [l6.F1_e]
  simp only [P3,Option.bind_some,hlt,decide_true,cond_true,hia,hia',l4,keptTree_of ihk ha hk (show asz ats ≤ 1050000 by omega) (show kids.sz ≤ 1050000 by omega),Out.on,if_true,asB,Bool.not_true,cond_false,wi]
  exact ihr row row' n (i + 1) tok tok' st ⟨r,hd⟩ hr2 (by omega) (by omega) hb
theorem a45 {ts:Fo} {v:AV} (hv:FoV ts v) (hs:ts.sz ≤ 1050000) (st:Sto):O1 ap 23 [Q9 ts,v] st = some (.ret (.bool true),st):=kept_of (kept_all ts) hv hs st
end Go.Proofs.YtcgepgahgihojaaGreatDoor
namespace Go.Proofs.YtcgepgahgihojaaGreatDoor
open Go.St Go.Lib
set_option linter.unusedVariables false
set_option linter.unusedSimpArgs false
section
variable {p:PrA} {tx cd sx bl:AV}
theorem a0P {a b c d:AV} (ha:a.isCell = true) (hb:b.isCell = true) (hc:c.isCell = true) (hd:d.isCell = true):([a,b,c,d]).all AV.isCell = true:=by
 simp only [List.all_cons,List.all_nil,ha,hb,hc,hd,Bool.and_true]
theorem okB_of (hs:W2 p) (i:Nat):OkB (p.blocks.getD i default):=⟨by have:=(hs.o i).1; omega,hs.l i,(hs.o i).2⟩
theorem lendF_foM (ts:Fo):FoM ts (Q9 ts) := .inr ⟨_,_,rfl,by rw [List.length_append,a36]; show _ = (ts.len + 2) * 4; simp [R0]; omega,a3a ts _⟩
theorem a2E (hs:W2 p) (hT:TxV p.texts tx) (hC:CdV p.codes cd) (hS:FoM p.statics sx) (hB:a3W p.blocks bl) (hsc:sx.isCell = true) (st:Sto) :
  ∃ t c b,O1 ap 5 [.agg [tx,cd,sx,bl]] st = some (.ret (.agg [t,c,Q9 p.statics,b]),st)∧LTx p.texts t∧LCd p.codes c∧LBls p.blocks b:=by
 have hall:=a0P hT.2.1 hC.2.1 hsc hB.2.1
 obtain ⟨S0,hS0⟩:∃ S0,S0 = st ++ [Ob.cells 0 [tx,cd,sx,bl] 0]:=⟨_,rfl⟩
 have hl0:S0.length = st.length + 1:=by rw [hS0]; simp
 obtain ⟨S,hSe⟩:∃ S,S = S0 ++ [Ob.cells 0 [.nils, .nils, .nils, .nils] 0]:=⟨_,rfl⟩
 have hP:S[st.length]? = some (.cells 0 [tx,cd,sx,bl] 0):=by rw [hSe]; exact P8 (by rw [hS0]; exact P6)
 obtain ⟨t,t1,t2,t3⟩:=a4h hT hs.t S
 obtain ⟨c,c1,c2,c3⟩:=a4c hC hs.c hs.cs S
 obtain ⟨b,b1,b2,b3⟩:=a3q hB hs.b (okB_of hs) S
 have s1:=a4e hS.fov hs.s S
 have hall2:=a0P (c:=Q9 p.statics) (Lnt.el t2).2.1 (Lnt.el c2).2.1 rfl (Lnt.el b2).2.1
 have hfill:(X3 (O9 (fun i=>([(0,1),(1,1),(2,1),(3,1)]:List (Nat × Nat))[i]?) [.nils, .nils, .nils, .nils] [(0,t),(1,c),(2,Q9 p.statics),(3,b)])) = some (.agg [t,c,Q9 p.statics,b]):=by
  have h1:=T8 (Lnt.el t2).2.2.1
  have h2:=T8 (Lnt.el c2).2.2.1
  have h3:=T8 (Lnt.el b2).2.2.1
  have h4:(Q9 p.statics).cells = [Q9 p.statics]:=rfl
  have g1:=(Lnt.el t2).2.1
  have g2:=(Lnt.el c2).2.1
  have g3:=(Lnt.el b2).2.1
  have g4:(Q9 p.statics).isCell = true:=rfl
  simp [X3,O9,h1,h2,h3,h4,g1,g2,g3,g4,splice]
 have hcl:Clean (.agg [t,c,Q9 p.statics,b]):=a3D fun v hv=>by
  simp only [List.mem_cons,List.not_mem_nil,or_false] at hv
  rcases hv with rfl | rfl | rfl | rfl
  ·exact t3
  ·exact c3
  ·exact fun n=>⟨a1l n _,a3O n _⟩
  ·exact b3
 refine ⟨t,c,b,?_,t2,c2,b2⟩
 rw [A5.call]
 have hlast:S[S0.length]? = some (.cells 0 [.nils, .nils, .nils, .nils] 0):=by rw [hSe]; exact P6
 have hSl:=(List.getElem?_eq_some_iff.1 hlast).1
 refine O7 (st':=S.set S0.length (.cells 0 [t,c,Q9 p.statics,b] 0)) ?_ (hcl _).1 (hcl _).2 ?_
 ·rw [A5.b_eq,Q3,←hS0,←hSe]
  refine (it hall).trans ?_
  refine (br (O8 (n:=0) hP rfl)).trans ?_
  refine (cr t1).trans ?_
  refine (it rfl).trans ?_
  refine (br (O8 (n:=1) hP rfl)).trans ?_
  refine (cr c1).trans ?_
  refine (it rfl).trans ?_
  refine (br (O8 (n:=2) hP rfl)).trans ?_
  refine (cr s1).trans ?_
  refine (it rfl).trans ?_
  refine (br (O8 (n:=3) hP rfl)).trans ?_
  refine (cr b1).trans ?_
  refine (it rfl).trans ?_
  refine (br hfill).trans ?_
  refine (br (sto_all hlast hall2 rfl rfl)).trans ?_
  exact br (Z7 (g:=0) (fz:=0) (List.getElem?_set_self hSl) rfl)
 ·rw [hSe,hS0]
  exact ((O5.app (Nat.le_refl _)).trans (O5.app (by simp))).trans (O5.set (by simp))
theorem a2D (hs:W2 p) (hT:TxV p.texts tx) (hC:CdV p.codes cd) (hS:FoM p.statics sx) (hB:a3W p.blocks bl) (hsc:sx.isCell = true) {t c b:AV} (ht:LTx p.texts t) (hc:LCd p.codes c) (hb:LBls p.blocks b) (st:Sto) :
  O1 ap 9 [.agg [t,c,Q9 p.statics,b], .agg [tx,cd,sx,bl]] st = some (.ret (.bool true),st):=by
 have hall:=a0P hT.2.1 hC.2.1 hsc hB.2.1
 have hall2:=a0P (c:=Q9 p.statics) (Lnt.el ht).2.1 (Lnt.el hc).2.1 rfl (Lnt.el hb).2.1
 obtain ⟨S0,hS0⟩:∃ S0,S0 = st ++ [Ob.cells 0 [t,c,Q9 p.statics,b] 0]:=⟨_,rfl⟩
 obtain ⟨S,hSe⟩:∃ S,S = S0 ++ [Ob.cells 0 [tx,cd,sx,bl] 0]:=⟨_,rfl⟩
 have ha:S[st.length]? = some (.cells 0 [t,c,Q9 p.statics,b] 0):=by rw [hSe]; exact P8 (by rw [hS0]; exact P6)
 have hp:S[S0.length]? = some (.cells 0 [tx,cd,sx,bl] 0):=by rw [hSe]; exact P6
 rw [A6.call]
 refine O7 (st':=S) ?_ rfl rfl (by rw [hSe,hS0,List.append_assoc]; exact O5.app (Nat.le_refl _))
 rw [A6.b_eq,Q3,Q3,←hS0,←hSe]
 refine (it hall2).trans ?_
 refine (it hall).trans ?_
 refine (br (O8 (n:=0) ha rfl)).trans ?_
 refine (br (O8 (n:=0) hp rfl)).trans ?_
 refine (cr (a4a ht hT hs.t S)).trans ?_
 refine (br (gB _)).trans ?_
 refine gs.trans ?_
 refine (bt rfl).trans ?_
 refine (br (O8 (n:=1) ha rfl)).trans ?_
 refine (br (O8 (n:=1) hp rfl)).trans ?_
 refine (cr (a3Z hc hC hs.c hs.cs S)).trans ?_
 refine (br (aB _)).trans ?_
 refine (bt rfl).trans ?_
 refine (br (O8 (n:=2) ha rfl)).trans ?_
 refine (br (O8 (n:=2) hp rfl)).trans ?_
 refine (cr (a45 hS.fov hs.s S)).trans ?_
 refine (br (aB _)).trans ?_
 refine (bt rfl).trans ?_
 refine (br (O8 (n:=3) ha rfl)).trans ?_
 refine (br (O8 (n:=3) hp rfl)).trans ?_
 refine (cr (a3M hb hB hs.b (okB_of hs) S)).trans ?_
 exact br (aB _)
theorem programs_of (hs:W2 p) (hT:TxV p.texts tx) (hC:CdV p.codes cd) (hS:FoM p.statics sx) (hB:a3W p.blocks bl) (hsc:sx.isCell = true) (hm:∀ row n m,sx = .is row n (.cut m)→n ≤ m) :
  O1 ap 3 [.agg [tx,cd,sx,bl]] [] = some (.ret (.bool true),[]):=by
 have hall:=a0P hT.2.1 hC.2.1 hsc hB.2.1
 obtain ⟨S0,hS0⟩:∃ S0:Sto,S0 = [] ++ [Ob.cells 0 [tx,cd,sx,bl] 0]:=⟨_,rfl⟩
 have hP:S0[([]:Sto).length]? = some (.cells 0 [tx,cd,sx,bl] 0):=by rw [hS0]; rfl
 obtain ⟨q,hq⟩:=shallow_spec hS.fov hs.s S0
 obtain ⟨t,c,b,l1,l2,l3,l4⟩:=a2E hs hT hC hS hB hsc S0
 have hall2:=a0P (c:=Q9 p.statics) (Lnt.el l2).2.1 (Lnt.el l3).2.1 rfl (Lnt.el l4).2.1
 obtain ⟨S,hSe⟩:∃ S,S = S0 ++ [Ob.cells 0 [t,c,Q9 p.statics,b] 0]:=⟨_,rfl⟩
 have hPS:S[([]:Sto).length]? = some (.cells 0 [tx,cd,sx,bl] 0):=by rw [hSe]; exact P8 hP
 have hLS:S[S0.length]? = some (.cells 0 [t,c,Q9 p.statics,b] 0):=by rw [hSe]; exact P6
 have v1:=W5 (st:=S) hs (fun row n m h=>by
  unfold Q9 at h
  simp only [AV.is.injEq,Tok.cut.injEq] at h
  omega) (Lnt.el l2) l3.cd (lendF_foM p.statics) (l4.bls.blv _ _) rfl
 have v2:=a41 (st:=S) hs hm hT hC hS hB hsc
 have kp:=a2D hs hT hC hS hB hsc l2 l3 l4 S
 rw [z8.call]
 suffices hb:∃ S',z8.b (.agg [tx,cd,sx,bl]) [] = some ⟨.ret (.bool true),none,S'⟩ by
  obtain ⟨S',hb⟩:=hb
  exact O7 hb rfl rfl ⟨Nat.zero_le _,fun i hi=>absurd hi (by simp)⟩
 have via':∀ {a b:Option Res},a = b→(∃ S',b = some ⟨.ret (.bool true),none,S'⟩)→∃ S',a = some ⟨.ret (.bool true),none,S'⟩:=fun h k=>by rw [h]; exact k
 rw [z8.b_eq,Q3,←hS0]
 refine via' (it hall) ?_
 refine via' (br (O8 (n:=2) hP rfl)) ?_
 refine via' (cr hq) ?_
 refine via' (br (aB _)) ?_
 cases q with
 | false=>exact ⟨_,bt rfl⟩
 | true=>
  refine ⟨S,?_⟩
  refine (bf rfl).trans ?_
  refine (br (Z7 (g:=0) (fz:=0) hP rfl)).trans ?_
  refine (cr l1).trans ?_
  refine (br (a3P (cs:=[.nils, .nils, .nils, .nils]) (cs':=[t,c,Q9 p.statics,b]) hall2 rfl rfl)).trans ?_
  rw [←hSe]
  refine (br (Z7 (g:=0) (fz:=0) hLS rfl)).trans ?_
  refine (cr v1).trans ?_
  refine (br (x0 _ _)).trans ?_
  refine (br (x1 _ _ _)).trans ?_
  refine (br (x2 _ _ _ _)).trans ?_
  refine (br (Z7 (g:=0) (fz:=0) hPS rfl)).trans ?_
  refine (cr v2).trans ?_
  refine (br (x0 _ _)).trans ?_
  refine (br (x1 _ _ _)).trans ?_
  refine (br (x2 _ _ _ _)).trans ?_
  refine (br (aI _)).trans ?_
  refine (br (aI _)).trans ?_
  refine (bt (O4 rfl)).trans ?_
  refine (br (aI _)).trans ?_
  refine (br (aI _)).trans ?_
  refine (bt (O4 rfl)).trans ?_
  refine (cr (a2G _ S)).trans ?_
  refine (br (aI _)).trans ?_
  refine (br (aI _)).trans ?_
  refine (bt (O4 rfl)).trans ?_
  refine (br (Z7 (g:=0) (fz:=0) hLS rfl)).trans ?_
  refine (br (Z7 (g:=0) (fz:=0) hPS rfl)).trans ?_
  refine (cr kp).trans ?_
  refine (br (aB _)).trans ?_
  refine (bt rfl).trans ?_
  refine (cr (awake_spec S)).trans ?_
  exact br (aB _)
theorem programs_law {n:Nat} {l:List AV} (h:Shp ap n 27 l) (hb:T1 l ≤ 1048576):O1 ap 3 [.agg l] [] = some (.ret (.bool true),[]):=by
 obtain ⟨p,tx,cd,sx,bl,rfl,hR⟩:=prog_shape h hb
 exact programs_of hR.hsm hR.htx hR.hcd hR.hsx hR.hbl hR.hcell (fun row n m h=>absurd h (hR.hcut _ _ _))
end
end Go.Proofs.YtcgepgahgihojaaGreatDoor
namespace Go.Proofs.YtcgepgahgihojaaGreatDoor
open Go.St Go.Proofs
theorem eqsOk_of {P : Program} {A : P2} (h : (A.eqs.all fun x => eqOkB P x.1 x.2) = true) : EqsOk P A := fun t ks ht => by
  simp only [List.all_eq_true] at h
  exact h _ (assoc_mem ht)
theorem fns_cons {P : Program} {f : FuncId} {fn : Func} {l : List (FuncId × Func)} (h : P.funcs[f]? = some fn) (hn : (fn.name == "runtime.NumGoroutine") = false) (k : ∀ g gn, P0 g l = some gn → P.funcs[g]? = some gn ∧ (gn.name == "runtime.NumGoroutine") = false) :
    ∀ g gn, P0 g ((f, fn) :: l) = some gn → P.funcs[g]? = some gn ∧ (gn.name == "runtime.NumGoroutine") = false := by
  intro g gn hg
  simp only [P0] at hg
  split at hg
  · rename_i e; subst e; cases hg; exact ⟨h, hn⟩
  · exact k g gn hg
theorem fns_nil {P : Program} : ∀ g gn, P0 g ([] : List (FuncId × Func)) = some gn → P.funcs[g]? = some gn ∧ (gn.name == "runtime.NumGoroutine") = false := fun g gn h => by cases h
theorem prims (w0:World):PrimOk Tryz.prog ap w0:=fun f p hp=>by
 have e:ap.prims = []:=by kernel_rfl
 rw [e] at hp
 cases hp
theorem tabOk:X1 Tryz.prog ap:=tabOk_of (by kernel_rfl)
theorem eqsOk:EqsOk Tryz.prog ap:=eqsOk_of (by kernel_rfl)
theorem fnsOk:FnsOk Tryz.prog ap:=
 fns_cons Tryz.func3 (by kernel_rfl) <|
 fns_cons Tryz.func4 (by kernel_rfl) <|
 fns_cons Tryz.func5 (by kernel_rfl) <|
 fns_cons Tryz.func8 (by kernel_rfl) <|
 fns_cons Tryz.func9 (by kernel_rfl) <|
 fns_cons Tryz.func12 (by kernel_rfl) <|
 fns_cons Tryz.func13 (by kernel_rfl) <|
 fns_cons Tryz.func14 (by kernel_rfl) <|
 fns_cons Tryz.func15 (by kernel_rfl) <|
 fns_cons Tryz.func21 (by kernel_rfl) <|
 fns_cons Tryz.func22 (by kernel_rfl) <|
 fns_cons Tryz.func23 (by kernel_rfl) <|
 fns_cons Tryz.func24 (by kernel_rfl) <|
 fns_cons Tryz.func26 (by kernel_rfl) <|
 fns_cons Tryz.func27 (by kernel_rfl) <|
 fns_cons Tryz.func28 (by kernel_rfl) <|
 fns_cons Tryz.func29 (by kernel_rfl) <|
 fns_cons Tryz.func46 (by kernel_rfl) <|
 fns_cons Tryz.func47 (by kernel_rfl) <|
 fns_cons Tryz.func48 (by kernel_rfl) <|
 fns_cons Tryz.func49 (by kernel_rfl) <|
 fns_cons Tryz.func50 (by kernel_rfl) <|
 fns_cons Tryz.func51 (by kernel_rfl) <|
 fns_cons Tryz.func52 (by kernel_rfl) <|
 fns_cons Tryz.func53 (by kernel_rfl) <|
 fns_cons Tryz.func54 (by kernel_rfl) <|
 fns_cons Tryz.func55 (by kernel_rfl) <|
 fns_cons Tryz.func76 (by kernel_rfl) <|
 fns_cons Tryz.func77 (by kernel_rfl) <|
 fns_cons Tryz.func78 (by kernel_rfl) <|
 fns_cons Tryz.func79 (by kernel_rfl) <|
 fns_cons Tryz.func80 (by kernel_rfl) <|
 fns_cons Tryz.func81 (by kernel_rfl) <|
 fns_cons Tryz.func82 (by kernel_rfl) <|
 fns_cons Tryz.func83 (by kernel_rfl) <|
 fns_cons Tryz.func84 (by kernel_rfl) <|
 fns_cons Tryz.func85 (by kernel_rfl) <|
 fns_cons Tryz.func86 (by kernel_rfl) <|
 fns_cons Tryz.func101 (by kernel_rfl) <|
 fns_cons Tryz.func102 (by kernel_rfl) <|
 fns_cons Tryz.func6 (by kernel_rfl) <|
 fns_cons Tryz.func7 (by kernel_rfl) <|
 fns_cons Tryz.func10 (by kernel_rfl) <|
 fns_cons Tryz.func11 (by kernel_rfl) <|
 fns_cons Tryz.func16 (by kernel_rfl) <|
 fns_cons Tryz.func17 (by kernel_rfl) <|
 fns_cons Tryz.func18 (by kernel_rfl) <|
 fns_cons Tryz.func19 (by kernel_rfl) <|
 fns_cons Tryz.func20 (by kernel_rfl) <|
 fns_cons Tryz.func25 (by kernel_rfl) <|
 fns_cons Tryz.func30 (by kernel_rfl) <|
 fns_cons Tryz.func31 (by kernel_rfl) <|
 fns_cons Tryz.func32 (by kernel_rfl) <|
 fns_cons Tryz.func33 (by kernel_rfl) <|
 fns_cons Tryz.func34 (by kernel_rfl) <|
 fns_cons Tryz.func35 (by kernel_rfl) <|
 fns_cons Tryz.func36 (by kernel_rfl) <|
 fns_cons Tryz.func37 (by kernel_rfl) <|
 fns_cons Tryz.func38 (by kernel_rfl) <|
 fns_cons Tryz.func39 (by kernel_rfl) <|
 fns_cons Tryz.func40 (by kernel_rfl) <|
 fns_cons Tryz.func41 (by kernel_rfl) <|
 fns_cons Tryz.func42 (by kernel_rfl) <|
 fns_cons Tryz.func43 (by kernel_rfl) <|
 fns_cons Tryz.func44 (by kernel_rfl) <|
 fns_cons Tryz.func45 (by kernel_rfl) <|
 fns_cons Tryz.func56 (by kernel_rfl) <|
 fns_cons Tryz.func57 (by kernel_rfl) <|
 fns_cons Tryz.func58 (by kernel_rfl) <|
 fns_cons Tryz.func59 (by kernel_rfl) <|
 fns_cons Tryz.func60 (by kernel_rfl) <|
 fns_cons Tryz.func61 (by kernel_rfl) <|
 fns_cons Tryz.func62 (by kernel_rfl) <|
 fns_cons Tryz.func63 (by kernel_rfl) <|
 fns_cons Tryz.func64 (by kernel_rfl) <|
 fns_cons Tryz.func65 (by kernel_rfl) <|
 fns_cons Tryz.func66 (by kernel_rfl) <|
 fns_cons Tryz.func67 (by kernel_rfl) <|
 fns_cons Tryz.func68 (by kernel_rfl) <|
 fns_cons Tryz.func69 (by kernel_rfl) <|
 fns_cons Tryz.func70 (by kernel_rfl) <|
 fns_cons Tryz.func71 (by kernel_rfl) <|
 fns_cons Tryz.func72 (by kernel_rfl) <|
 fns_cons Tryz.func73 (by kernel_rfl) <|
 fns_cons Tryz.func74 (by kernel_rfl) <|
 fns_cons Tryz.func75 (by kernel_rfl) <|
 fns_cons Tryz.func87 (by kernel_rfl) <|
 fns_cons Tryz.func88 (by kernel_rfl) <|
 fns_cons Tryz.func89 (by kernel_rfl) <|
 fns_cons Tryz.func90 (by kernel_rfl) <|
 fns_cons Tryz.func91 (by kernel_rfl) <|
 fns_cons Tryz.func92 (by kernel_rfl) <|
 fns_cons Tryz.func93 (by kernel_rfl) <|
 fns_cons Tryz.func94 (by kernel_rfl) <|
 fns_cons Tryz.func95 (by kernel_rfl) <|
 fns_cons Tryz.func96 (by kernel_rfl) <|
 fns_cons Tryz.func97 (by kernel_rfl) <|
 fns_cons Tryz.func98 (by kernel_rfl) <|
 fns_cons Tryz.func99 (by kernel_rfl) <|
 fns_cons Tryz.func100 (by kernel_rfl) <|
 fns_cons Tryz.func103 (by kernel_rfl) <|
 fns_cons Tryz.func104 (by kernel_rfl) <|
 fns_cons Tryz.func105 (by kernel_rfl) <|
 fns_cons Tryz.func106 (by kernel_rfl) <|
 fns_cons Tryz.func107 (by kernel_rfl) <|
 fns_cons Tryz.func108 (by kernel_rfl) <|
 fns_cons Tryz.func109 (by kernel_rfl) <|
 fns_cons Tryz.func110 (by kernel_rfl) <|
 fns_cons Tryz.func111 (by kernel_rfl) <|
 fns_cons Tryz.func112 (by kernel_rfl) <|
 fns_nil
theorem bldOk:BldOk Tryz.prog ap:=fun i hi=>by
 have h:Tryz.prog.info? ap.bld = none:=by kernel_rfl
 rw [h] at hi
 cases hi
set_option maxRecDepth 100000 in
theorem sound (w0:World):a1U Tryz.prog ap w0:=⟨tabOk,eqsOk,fnsOk,prims w0,bldOk,fun h=>by kernel_rfl⟩
theorem globs {W : World} (h : laidMet Tryz.prog [("unicode/utf8.acceptRanges", Rows.laid_unicode_utf8_acceptRanges), ("unicode/utf8.first", Rows.laid_unicode_utf8_first)] W) : a04 ap (Gh.start W) := by
 intro g cs hg
 have hm:=assoc_mem hg
 simp only [ap,List.mem_cons,List.not_mem_nil,or_false,Prod.mk.injEq] at hm
 rcases hm with ⟨rfl,rfl⟩ | ⟨rfl,rfl⟩
 ·exact glob_of tabOk (ts := [155, 154, 5, 151]) (by kernel_rfl) h (name := "unicode/utf8.acceptRanges") (d := Rows.laid_unicode_utf8_acceptRanges) List.mem_cons_self (by kernel_rfl) (by kernel_rfl) (t := 155) (by decide) (N := 8) (by kernel_rfl)
 ·exact glob_of tabOk (ts := [155, 154, 5, 151]) (by kernel_rfl) h (name := "unicode/utf8.first") (d := Rows.laid_unicode_utf8_first) (List.mem_cons_of_mem _ (List.mem_cons_self)) (by kernel_rfl) (by kernel_rfl) (t := 151) (by decide) (N := 8) (by kernel_rfl)
end Go.Proofs.YtcgepgahgihojaaGreatDoor
