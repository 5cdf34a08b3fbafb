import GoSem.PinnedTables
import Derived.Test.YtcgepgahgihojaaGreatDoorQ3
namespace Go.Proofs.YtcgepgahgihojaaGreatDoor
open Go.St Go.Lib
set_option linter.unusedVariables false
set_option linter.unusedSimpArgs false
theorem O7 {b:Option Res} {v:AV} {st st':Sto} (h:b = some ⟨.ret v,none,st'⟩) (hs:v.strip st.length = v) (ho:v.old st.length = true) (hk:O5 st.length st st') :
  (b.bind fun r=>some (gc st (r.out,r.st))) = some (.ret v,st):=by
 rw [h]
 simp only [Option.bind_some]
 rw [gc_keep hs ho hk]
theorem w64 {x:Int} (k:Nat) (h:x = k) (hk:k < 9223372036854775808):IntKind.wrap .i64 x = (k:Int):=by rw [h]; exact wrap64 (by omega) (by omega)
theorem first_at (b:Nat) (h:b < 256):(a03 256 1 (.ip glob0) (.int .u8 (b:Int))) = some (.ip [.int .u8 (firstT b:Nat)]):=by
 have hf:∀ c:Fin 256,Go.Pinned.utf8FirstZ[c.1]? = some (firstT c.1):=by decide +kernel
 have hl:Go.Pinned.utf8FirstZ.length = 256:=by decide +kernel
 have hg:glob0[b]? = some (.int .u8 (firstT b:Nat)):=by
  show (Go.Pinned.utf8FirstZ.map fun (n:Nat)=>AV.int .u8 (n:Int))[b]? = _
  rw [List.getElem?_map,hf ⟨b,h⟩]
  rfl
 have hgl:glob0.length = 256:=by show (Go.Pinned.utf8FirstZ.map fun (n:Nat)=>AV.int .u8 (n:Int)).length = 256; rw [List.length_map,hl]
 unfold a03
 simp only [P9 h,Option.bind_some,hgl]
 rw [if_pos (by omega)]
 congr 2
 obtain ⟨hb,he⟩:=List.getElem?_eq_some_iff.1 hg
 rw [Nat.mul_one,List.drop_eq_getElem_cons hb,he]
 rfl
set_option maxHeartbeats 4000000 in
theorem slow_core (t:ByteArray) (st:Sto) (ht:0 < t.size) (x k lo hi sz:Nat) (hx:firstT (bat t 0) = x) (hx':x < 240) (hsz:2 ≤ sz) (hsz':sz ≤ 4) (h1:shrI .u8 x 4 = k) (h2:a03 16 2 (.ip glob1) (.int .u8 k) = some (.ip [.int .u8 lo, .int .u8 hi]))
  (h3:IntKind.wrap .i64 (andI .u8 x 7) = sz):∃ X st',d6.b t st = some ⟨.ret (.tup [.int .i32 X, .int .i64 ((slowN t.size (bat t 0) (bat t 1) (bat t 2) (bat t 3) sz lo hi).2:Nat)]),none,st'⟩∧O5 st.length st st':=by
 have hsto:sto 2 (st ++ [Ob.cells 0 [.int .u8 0, .int .u8 0] 0]) (.mp st.length 0 0) (.agg [.int .u8 lo, .int .u8 hi]) = some (st ++ [Ob.cells 0 [.int .u8 lo, .int .u8 hi] 0]):=by
  simp [sto,W6,AV.cells,AV.isCell,splice]
 have hk:O5 st.length st (st ++ [Ob.cells 0 [.int .u8 lo, .int .u8 hi] 0]):=O5.app (Nat.le_refl _)
 have hl0:ld false 1 (st ++ [Ob.cells 0 [.int .u8 lo, .int .u8 hi] 0]) (.mp st.length 0 0) = some (.int .u8 lo):=by simp [ld,V7,pack]
 have hl1:ld false 1 (st ++ [Ob.cells 0 [.int .u8 lo, .int .u8 hi] 0]) (.mp st.length 0 1) = some (.int .u8 hi):=by simp [ld,V7,pack]
 have hp:ld true 2 st (.ip [.int .u8 lo, .int .u8 hi]) = some (.agg [.int .u8 lo, .int .u8 hi]):=by simp [ld,V7,pack]
 have hp1:ld false 1 st (.ip [.int .u8 (x:Int)]) = some (.int .u8 (x:Int)):=by simp [ld,V7,pack]
 have e1:¬ ((t.size:Int) < 1):=by omega
 have e2:¬ ((240:Int) ≤ (x:Int)):=by omega
 rw [d6.b_eq]
 simp only [e1,decide_false,cond_false,idx0 ht,Option.bind_some,Y0,first_at _ (a0d t 0),hx,hp1,asI,if_true,e2,h1,h2,hp,hsto,h3]
 have c1:((t.size:Int) < (sz:Int)) = (t.size < sz):=propext ⟨fun h=>by omega,fun h=>by omega⟩
 by_cases a1:t.size < sz
 ·simp only [c1,a1,decide_true,cond_true]
  exact ⟨_,_,by simp only [slowN,a1,if_true]; rfl,hk⟩
 ·have i1:1 < t.size:=by omega
  simp only [c1,a1,decide_false,cond_false,idx1 i1,Option.bind_some,hl0,Y0]
  by_cases a2:bat t 1 < lo
  ·have a2':(bat t 1:Int) < (lo:Int):=by omega
   simp only [asI,if_true,Option.bind_some,a2',decide_true,cond_true,d6.L0_e]
   exact ⟨_,_,by simp only [slowN,a1,a2,true_or,if_true,if_false]; rfl,hk⟩
  ·have a2':¬ (bat t 1:Int) < (lo:Int):=by omega
   simp only [asI,if_true,Option.bind_some,a2',decide_false,cond_false,hl1,d6.L0_e]
   by_cases a3:hi < bat t 1
   ·have a3':(hi:Int) < (bat t 1:Int):=by omega
    simp only [a3',decide_true,cond_true]
    exact ⟨_,_,by simp only [slowN,a1,a2,a3,or_true,if_true,if_false]; rfl,hk⟩
   ·have a3':¬ (hi:Int) < (bat t 1:Int):=by omega
    simp only [a3',decide_false,cond_false]
    by_cases a4:sz ≤ 2
    ·have a4':(sz:Int) ≤ 2:=by omega
     simp only [a4',decide_true,cond_true]
     exact ⟨_,_,by simp only [slowN,a1,a2,a3,a4,or_false,if_true,if_false]; rfl,hk⟩
    ·have a4':¬ (sz:Int) ≤ 2:=by omega
     have i2:2 < t.size:=by omega
     simp only [a4',decide_false,cond_false,idx2 i2,Option.bind_some,Y0,d6.I2_e]
     have fin3:∀ q:Bool,q = decide (bat t 2 < 128∨191 < bat t 2)→∃ X st',(bif q then some ⟨.ret (.tup [.int .i32 65533, .int .i64 1]),none,st ++ [Ob.cells 0 [.int .u8 lo, .int .u8 hi] 0]⟩ else d6.I2 t (bat t 0:Int) (sz:Int) (bat t 1:Int) (bat t 2:Int) false (st ++ [Ob.cells 0 [.int .u8 lo, .int .u8 hi] 0])) =
       some ⟨.ret (.tup [.int .i32 X, .int .i64 ((slowN t.size (bat t 0) (bat t 1) (bat t 2) (bat t 3) sz lo hi).2:Nat)]),none,st'⟩∧O5 st.length st st':=by
      intro q hq
      by_cases a5:bat t 2 < 128∨191 < bat t 2
      ·simp only [a5,decide_true] at hq
       subst hq
       simp only [cond_true]
       exact ⟨_,_,by simp only [slowN,a1,a2,a3,a4,a5,or_false,if_true,if_false]; rfl,hk⟩
      ·simp only [a5,decide_false] at hq
       subst hq
       simp only [cond_false,d6.I2_e]
       by_cases a6:sz ≤ 3
       ·have a6':(sz:Int) ≤ 3:=by omega
        simp only [a6',decide_true,cond_true]
        exact ⟨_,_,by simp only [slowN,a1,a2,a3,a4,a5,a6,or_false,if_true,if_false]; rfl,hk⟩
       ·have a6':¬ (sz:Int) ≤ 3:=by omega
        have i3:3 < t.size:=by omega
        simp only [a6',decide_false,cond_false,idx3 i3,Option.bind_some,Y0,d6.J4_e]
        by_cases b1:bat t 3 < 128
        ·have b1':(bat t 3:Int) < 128:=by omega
         simp only [b1',decide_true,cond_true]
         exact ⟨_,_,by simp only [slowN,a1,a2,a3,a4,a5,a6,b1,true_or,or_false,if_true,if_false]; rfl,hk⟩
        ·have b1':¬ (bat t 3:Int) < 128:=by omega
         simp only [b1',decide_false,cond_false]
         by_cases b2:191 < bat t 3
         ·have b2':(191:Int) < (bat t 3:Int):=by omega
          simp only [b2',decide_true,cond_true]
          exact ⟨_,_,by simp only [slowN,a1,a2,a3,a4,a5,a6,b1,b2,or_true,or_false,if_true,if_false]; rfl,hk⟩
         ·have b2':¬ (191:Int) < (bat t 3:Int):=by omega
          simp only [b2',decide_false,cond_false]
          exact ⟨_,_,by simp only [slowN,a1,a2,a3,a4,a5,a6,b1,b2,or_false,if_true,if_false]; rfl,hk⟩
     by_cases c5:bat t 2 < 128
     ·have c5':(bat t 2:Int) < 128:=by omega
      have:=fin3 true (by simp [c5])
      simp only [c5',decide_true,cond_true] at this ⊢
      exact this
     ·have c5':¬ (bat t 2:Int) < 128:=by omega
      by_cases c6:191 < bat t 2
      ·have c6':(191:Int) < (bat t 2:Int):=by omega
       have:=fin3 true (by simp [c6])
       simp only [c5',c6',decide_true,decide_false,cond_true,cond_false] at this ⊢
       exact this
      ·have c6':¬ (191:Int) < (bat t 2:Int):=by omega
       have:=fin3 false (by simp [c5,c6])
       simp only [c5',c6',decide_false,cond_false,d6.I2_e] at this ⊢
       exact this
theorem slow_spec (t:ByteArray) (st:Sto) (ht:0 < t.size) (hb:128 ≤ bat t 0):∃ X,O1 ap 103 [.str t] st = some (.ret (.tup [.int .i32 X, .int .i64 ((dec t 0).2:Nat)]),st):=by
 have h0:=a0d t 0
 have hd:=a2A t 0
 simp only [Nat.sub_zero,Nat.zero_add] at hd
 have fin:(∃ X st',d6.b t st = some ⟨.ret (.tup [.int .i32 X, .int .i64 ((dec t 0).2:Nat)]),none,st'⟩∧O5 st.length st st')→∃ X,O1 ap 103 [.str t] st = some (.ret (.tup [.int .i32 X, .int .i64 ((dec t 0).2:Nat)]),st):=by
  rintro ⟨X,st',h,hk⟩
  exact ⟨X,by rw [d6.call]; exact O7 h rfl rfl hk⟩
 apply fin
 have core:∀ (x k lo hi sz:Nat),firstT (bat t 0) = x→x < 240→2 ≤ sz→sz ≤ 4→shrI .u8 x 4 = k→a03 16 2 (.ip glob1) (.int .u8 k) = some (.ip [.int .u8 lo, .int .u8 hi])→IntKind.wrap .i64 (andI .u8 x 7) = sz →
   x % 8 = sz→accLo (x / 16) = lo→accHi (x / 16) = hi→∃ X st',d6.b t st = some ⟨.ret (.tup [.int .i32 X, .int .i64 ((dec t 0).2:Nat)]),none,st'⟩∧O5 st.length st st':=by
  intro x k lo hi sz hx hx' h1 h2 h3 h4 h5 h6 h7 h8
  have:=slow_core t st ht x k lo hi sz hx hx' h1 h2 h3 h4 h5
  have e:=slow_eq t.size (bat t 0) (bat t 1) (bat t 2) (bat t 3) (by omega) (a0d _ _) (a0d _ _) (a0d _ _) (by rw [hx]; exact hx')
  rw [hx,h6,h7,h8,←hd] at e
  rwa [e] at this
 by_cases h241:firstT (bat t 0) = 241
 ·have hbad:=bad_eq t.size (bat t 0) (bat t 1) (bat t 2) (bat t 3) h0 h241
  rw [←hd] at hbad
  have e1:¬ ((t.size:Int) < 1):=by omega
  have hp1:ld false 1 st (.ip [.int .u8 (241:Int)]) = some (.int .u8 (241:Int)):=by simp [ld,V7,pack]
  rw [d6.b_eq]
  simp only [e1,decide_false,cond_false,idx0 ht,Option.bind_some,Y0,first_at _ h0,h241,show ((241:Nat):Int) = 241 from rfl,hp1,asI,if_true,Go.St.asInt,show decide ((240:Int) ≤ 241) = true from rfl,cond_true,hbad]
  exact ⟨_,_,rfl,O5.refl _ _⟩
 ·have hlow:firstT (bat t 0) < 240:=by
   revert h241
   unfold firstT
   repeat' split
   all_goals omega
  rcases firstT_low hlow with h | h | h | h | h | h | h
  ·exact core 2 0 128 191 2 (firstT_C2 h) (by decide) (by decide) (by decide) (by decide) rfl (by decide) rfl rfl rfl
  ·exact core 19 1 160 191 3 (firstT_E0 h) (by decide) (by decide) (by decide) (by decide) rfl (by decide) rfl rfl rfl
  ·exact core 3 0 128 191 3 (firstT_E1 h) (by decide) (by decide) (by decide) (by decide) rfl (by decide) rfl rfl rfl
  ·exact core 35 2 128 159 3 (firstT_ED h) (by decide) (by decide) (by decide) (by decide) rfl (by decide) rfl rfl rfl
  ·exact core 52 3 144 191 4 (firstT_F0 h) (by decide) (by decide) (by decide) (by decide) rfl (by decide) rfl rfl rfl
  ·exact core 4 0 128 191 4 (firstT_F1 h) (by decide) (by decide) (by decide) (by decide) rfl (by decide) rfl rfl rfl
  ·exact core 68 4 128 143 4 (firstT_F4 h) (by decide) (by decide) (by decide) (by decide) rfl (by decide) rfl rfl rfl
theorem rune_spec (t:ByteArray) (st:Sto) (ht:0 < t.size):∃ X,O1 ap 87 [.str t] st = some (.ret (.tup [.int .i32 X, .int .i64 ((dec t 0).2:Nat)]),st):=by
 have hne:¬ t = (⟨#[]⟩:ByteArray):=by
  rintro rfl
  exact absurd ht (by decide)
 by_cases hb:bat t 0 < 128
 ·have hd:=a2A t 0
  simp only [Nat.sub_zero,Nat.zero_add] at hd
  have hb':((bat t 0:Int) < 128):=by omega
  have he:dec t 0 = (bat t 0,1):=by rw [hd]; simp only [decodeN,hb,if_true]
  refine ⟨IntKind.wrap .i32 (bat t 0:Int),?_⟩
  rw [k0.call]
  refine O7 ?_ rfl rfl (O5.refl _ _)
  rw [k0.b_eq]
  simp only [hne,decide_false,Bool.not_false,cond_true,idx0 ht,Option.bind_some,Y0,hb',decide_true,k0.I7_e,he]
  rfl
 ·obtain ⟨X,hX⟩:=slow_spec t st ht (by omega)
  have hb':¬ ((bat t 0:Int) < 128):=by omega
  refine ⟨X,?_⟩
  rw [k0.call]
  refine O7 ?_ rfl rfl (O5.refl _ _)
  rw [k0.b_eq]
  simp only [hne,decide_false,Bool.not_false,cond_true,idx0 ht,Option.bind_some,Y0,hb',k0.I7_e,cond_false,hX,Out.on,ext]
  rfl
def V0:Option Nat→AV
 | none => .tup [.int .i64 0, .int .i64 0]
 | some a => .tup [.int .i64 (a:Nat), .int .i64 300]
theorem a1d (n:Nat) (r:Option Nat):(V0 r).strip n = V0 r:=by cases r <;> rfl
theorem a2q (n:Nat) (r:Option Nat):(V0 r).old n = true:=by cases r <;> rfl
theorem next_at {s:ByteArray} {i id:Nat} {st:Sto} (h:st[id]? = some (.iter s i)) (hi:i < s.size) :
  nextA (.it id) true st = some (.tup [.bool true, .int .i64 (i:Int), .int .i32 ((dec s i).1:Nat)],st.set id (.iter s (i + (dec s i).2))):=by
 simp only [nextA,h,if_true,hi,dec]
theorem next_end {s:ByteArray} {id:Nat} {st:Sto} (h:st[id]? = some (.iter s s.size)):nextA (.it id) true st = some (.tup [.bool false],st):=by
 simp only [nextA,h,if_true,Nat.lt_irrefl,if_false]
theorem bad_iff (s:ByteArray) (i:Nat):Bad s i ↔ (dec s i).1 = 65533∧(dec s i).2 = 1:=by
 have hd:=a2A s i
 unfold Bad
 rcases decodeN_cases (s.size - i) (bat s i) (bat s (i + 1)) (bat s (i + 2)) (bat s (i + 3)) (a0d _ _) with ⟨h0,h⟩ | ⟨h0,h⟩ | h
 ·rw [hd,h]; simp only; omega
 ·rw [hd,h]; simp only [h0,and_self]
 ·rw [←hd] at h; omega
theorem utf_loop {s:ByteArray} (hs:s.size < 9223372036854775800) {i:Nat} {r:Option Nat} (h:Scan s i r) (n id:Nat) (hn:n ≤ id):∀ st:Sto,st[id]? = some (.iter s i) →
  ∃ st',A8.F4 s (.it id) st = some ⟨.ret (V0 r),none,st'⟩∧O5 n st st':=by
 induction h with
 | done i h=>
  intro st hst
  rw [h] at hst
  rw [A8.F4_e]
  simp only [next_end hst,Option.bind_some,ext,List.getElem?_cons_zero,asB,cond_false]
  exact ⟨_,rfl,O5.refl _ _⟩
 | bad i h hb=>
  intro st hst
  obtain ⟨b1,b2⟩:=(bad_iff s i).1 hb
  have hx:bnd 0 s.size (some (.int .i64 (i:Int))) = some i:=by simp [bnd]; omega
  obtain ⟨X,hX⟩:=rune_spec (s.extract i s.size) (st.set id (.iter s (i + (dec s i).2))) (by simp [ByteArray.size_extract]; omega)
  rw [A8.F4_e]
  simp only [next_at hst h,Option.bind_some,ext,List.getElem?_cons_zero,List.getElem?_cons_succ,asB,cond_true,asI,if_true,b1,show decide (((65533:Nat):Int) = 65533) = true from rfl,hx]
  rw [b2] at hX ⊢
  simp only [hX,Option.bind_some,Out.on,a3K (Nat.le_of_lt h),b2,show decide (((1:Nat):Int) = 1) = true from rfl,cond_true,if_true]
  exact ⟨_,rfl,O5.set hn⟩
 | step i r h hb k ih=>
  intro st hst
  have hid:id < st.length:=(List.getElem?_eq_some_iff.1 hst).1
  have hset:(st.set id (.iter s (i + (dec s i).2)))[id]? = some (.iter s (i + (dec s i).2)):=List.getElem?_set_self hid
  obtain ⟨st',h1,h2⟩:=ih _ hset
  refine ⟨st',?_,(O5.set hn).trans h2⟩
  rw [A8.F4_e]
  simp only [next_at hst h,Option.bind_some,ext,List.getElem?_cons_zero,List.getElem?_cons_succ,asB,cond_true,asI,if_true]
  by_cases b1:(((dec s i).1:Nat):Int) = 65533
  ·have b2:¬ (((dec s i).2:Nat):Int) = 1:=fun hh=>hb ((bad_iff s i).2 ⟨by omega,by omega⟩)
   have hx:bnd 0 s.size (some (.int .i64 (i:Int))) = some i:=by simp [bnd]; omega
   obtain ⟨X,hX⟩:=rune_spec (s.extract i s.size) (st.set id (.iter s (i + (dec s i).2))) (by simp [ByteArray.size_extract]; omega)
   rw [a3K (Nat.le_of_lt h)] at hX
   simp only [b1,decide_true,cond_true,hx,Option.bind_some,hX,Out.on,List.getElem?_cons_zero,List.getElem?_cons_succ,b2,decide_false,cond_false,if_true]
   exact h1
  ·simp only [b1,decide_false,cond_false]
   exact h1
theorem a12 {s:ByteArray} (hs:s.size < 9223372036854775800) {r:Option Nat} (h:Scan s 0 r) (st:Sto):O1 ap 56 [.str s] st = some (.ret (V0 r),st):=by
 obtain ⟨st',h1,h2⟩:=utf_loop hs h st.length st.length (Nat.le_refl _) (st ++ [.iter s 0]) (by simp)
 rw [A8.call]
 refine O7 ?_ (a1d _ _) (a2q _ _) ((O5.app (Nat.le_refl _)).trans h2)
 rw [A8.b_eq]
 exact h1
set_option maxRecDepth 100000 in
theorem okAt_mid (s:ByteArray) (q:Nat) (st:Sto) (n:Int) (i:Nat) :
  (bif decide ((97:Int) ≤ (bat s i:Int)) then w4.G7 s (q:Int) (i:Int) (bat s i:Int) (decide ((bat s i:Int) ≤ 122)) n (i:Int) st else w4.G7 s (q:Int) (i:Int) (bat s i:Int) false n (i:Int) st)
   = w4.H6 s (q:Int) n (i:Int) (!okAt s q i) st:=by
 have e1:((97:Int) ≤ (bat s i:Int)) = (97 ≤ bat s i):=propext ⟨fun h=>by omega,fun h=>by omega⟩
 have e2:((bat s i:Int) ≤ 122) = (bat s i ≤ 122):=propext ⟨fun h=>by omega,fun h=>by omega⟩
 have e3:((i:Int) = 0) = (i = 0):=propext ⟨fun h=>by omega,fun h=>by omega⟩
 have e4:((bat s i:Int) = (q:Int)) = (bat s i = q):=propext ⟨fun h=>by omega,fun h=>by omega⟩
 have e5:((bat s i:Int) < 48) = (bat s i < 48):=propext ⟨fun h=>by omega,fun h=>by omega⟩
 have e6:((57:Int) < (bat s i:Int)) = (57 < bat s i):=propext ⟨fun h=>by omega,fun h=>by omega⟩
 have key:∀ x:Bool,x = (!okAt s q i)→w4.H6 s (q:Int) n (i:Int) x st = w4.H6 s (q:Int) n (i:Int) (!okAt s q i) st:=by rintro x rfl; rfl
 simp only [e1,e2,e3,e4,e5,e6,w4.G7_e,Bool.cond_not,Bool.cond_decide,cond_false]
 repeat' split
 all_goals refine key _ ?_
 all_goals unfold okAt
 all_goals rw [Bool.eq_iff_iff]
 all_goals simp only [true_iff,false_iff,Bool.not_eq_true',Bool.not_eq_false',Bool.or_eq_false_iff,Bool.and_eq_false_iff,Bool.or_eq_true,Bool.and_eq_true,decide_eq_true_eq,decide_eq_false_iff_not,Bool.false_eq_true,ne_eq,Bool.not_true,Bool.not_false]
 all_goals omega
theorem spelt_loop (s:ByteArray) (hs:s.size < 9223372036854775800) (q:Nat) (st:Sto):∀ m i:Nat,i + m = s.size →
  w4.F4 s (q:Int) (s.size:Nat) (i:Int) st = some ⟨.ret (.bool (a3j s q m i && (decide (1 ≤ s.size) && decide (s.size ≤ 32)))),none,st⟩:=by
 intro m
 induction m with
 | zero=>
  intro i h
  obtain rfl:i = s.size:=by omega
  rw [w4.F4_e]
  have e1:((0:Int) < (s.size:Int)) = (1 ≤ s.size):=propext ⟨fun h=>by omega,fun h=>by omega⟩
  have e2:((s.size:Int) ≤ 32) = (s.size ≤ 32):=propext ⟨fun h=>by omega,fun h=>by omega⟩
  simp only [Int.lt_irrefl,decide_false,cond_false,e1,e2,a3j,Bool.true_and]
  by_cases h1:1 ≤ s.size
  ·simp [h1]
  ·simp [h1]
 | succ m ih=>
  intro i h
  have hi:i < s.size:=by omega
  have hlt:(i:Int) < ((s.size:Nat):Int):=by omega
  have wi:IntKind.wrap .i64 ((i:Int) + 1) = ((i + 1:Nat):Int):=w64 _ (by omega) (by omega)
  rw [w4.F4_e]
  simp only [hlt,decide_true,cond_true,P9 hi,Option.bind_some,Y0]
  rw [okAt_mid,w4.H6_e,wi,a3j,ih (i + 1) (by omega)]
  cases okAt s q i <;> simp
theorem spelt_spec (s:ByteArray) (hs:s.size < 9223372036854775800) (q:Nat) (st:Sto):O1 ap 111 [.str s, .int .u8 (q:Int)] st = some (.ret (.bool (a0q s q)),st):=by
 rw [w4.call]
 refine O7 ?_ rfl rfl (O5.refl _ _)
 rw [w4.b_eq]
 have:=spelt_loop s hs q st s.size 0 (by omega)
 rw [show ((0:Int)) = ((0:Nat):Int) from rfl,this]
 unfold a0q
 rw [Bool.and_comm]
theorem tag_spec (s:ByteArray) (hs:s.size < 9223372036854775800) (st:Sto):O1 ap 106 [.str s] st = some (.ret (.bool (a0q s 45)),st):=by
 rw [E9.call]
 refine O7 ?_ rfl rfl (O5.refl _ _)
 rw [E9.b_eq,show ((45:Int)) = ((45:Nat):Int) from rfl,spelt_spec s hs 45 st]
 rfl
end Go.Proofs.YtcgepgahgihojaaGreatDoor
namespace Go.Proofs.YtcgepgahgihojaaGreatDoor
open Go.St Go.Lib
set_option linter.unusedVariables false
set_option linter.unusedSimpArgs false
theorem scan_det {s:ByteArray} {i:Nat} {r r':Option Nat} (h:Scan s i r) (h':Scan s i r'):r = r':=by
 induction h with
 | done i h=>cases h' <;> first | rfl | omega
 | bad i h hb=>cases h' <;> first | rfl | omega | contradiction
 | step i r h hb k ih=>
  cases h' with
  | done _ h2=>omega
  | bad _ _ hb2=>contradiction
  | step _ _ _ _ k2=>exact ih k2
open Classical in
noncomputable def okT (s:ByteArray):Bool:=decide (Scan s 0 none) && decide (s.size ≤ 4096)
open Classical in
theorem a3t (s:ByteArray) (hs:s.size < 9223372036854775800) (st:Sto):O1 ap 30 [.str s] st = some (.ret (.bool (okT s)),st):=by
 obtain ⟨r,hr⟩:=scan_ex s s.size 0 (by omega) (by omega)
 rw [E6.call]
 refine O7 ?_ rfl rfl (O5.refl _ _)
 rw [E6.b_eq]
 unfold okT
 cases r with
 | none=>
  have e:(((ByteArray.size s:Nat):Int) ≤ 4096) = (s.size ≤ 4096):=propext ⟨fun h=>by omega,fun h=>by omega⟩
  simp only [a12 hs hr,V0,Option.bind_some,Out.on,ext,List.getElem?_cons_zero,List.getElem?_cons_succ,asI,if_true,decide_true,cond_true,e,hr,Bool.true_and]
 | some a=>
  have e:¬ Scan s 0 none:=fun h=>by have:=scan_det h hr; cases this
  simp only [a12 hs hr,V0,Option.bind_some,Out.on,ext,List.getElem?_cons_zero,List.getElem?_cons_succ,asI,if_true,show decide ((300:Int) = 0) = false from rfl,cond_false,e,decide_false,Bool.false_and]
end Go.Proofs.YtcgepgahgihojaaGreatDoor
namespace Go.Proofs.YtcgepgahgihojaaGreatDoor
open Go.St Go.Lib
set_option linter.unusedVariables false
set_option linter.unusedSimpArgs false
inductive Fo where
 | nil
 | cons (tag text:ByteArray) (ats:List (ByteArray × ByteArray)) (kids rest:Fo)
def Fo.len:Fo→Nat
 | .nil=>0
 | .cons _ _ _ _ r=>r.len + 1
def asz:List (ByteArray × ByteArray)→Nat
 | []=>0
 | x :: r=>x.1.size + x.2.size + 2 + asz r
def Fo.sz:Fo→Nat
 | .nil=>0
 | .cons tag text ats kids rest=>tag.size + text.size + asz ats + kids.sz + rest.sz + 4
def R5:List (ByteArray × ByteArray)→List AV
 | []=>[]
 | x :: r => .str x.1 :: .str x.2 :: R5 r
def a2l (ats:List (ByteArray × ByteArray)) (v:AV):Prop:=(ats = []∧v = .nils)∨∃ rest tok,v = .is (R5 ats ++ rest) ats.length tok
def Row:Fo→List AV→Prop
 | .nil,_=>True
 | .cons tag text ats kids rest,row=>∃ a k r,row = .str tag :: .str text :: a :: k :: r∧a2l ats a∧((kids.len = 0∧k = .nils)∨∃ krow tok,k = .is krow kids.len tok∧Row kids krow)∧Row rest r
def FoV (ts:Fo) (v:AV):Prop:=(ts.len = 0∧v = .nils)∨∃ row tok,v = .is row ts.len tok∧Row ts row
theorem len_nil {ts:Fo} (h:ts.len = 0):ts = .nil:=by
 cases ts with
 | nil=>rfl
 | cons=>simp [Fo.len] at h
theorem a23 (ats:List (ByteArray × ByteArray)):2 * ats.length ≤ asz ats:=by
 induction ats with
 | nil=>simp [asz]
 | cons x r ih=>simp only [asz,List.length_cons]; omega
theorem asz_mem {ats:List (ByteArray × ByteArray)} {x:ByteArray × ByteArray} (h:x ∈ ats):x.1.size + x.2.size + 2 ≤ asz ats:=by
 induction ats with
 | nil=>simp at h
 | cons y r ih=>
  simp only [asz]
  rcases List.mem_cons.1 h with rfl | h
  ·omega
  ·have:=ih h; omega
theorem a1b (ts:Fo):4 * ts.len ≤ ts.sz:=by
 induction ts with
 | nil=>simp [Fo.len,Fo.sz]
 | cons tag text ats kids rest ihk ihr=>simp only [Fo.len,Fo.sz]; omega
theorem Z4 (ats:List (ByteArray × ByteArray)):(R5 ats).length = ats.length * 2:=by
 induction ats with
 | nil=>rfl
 | cons x r ih=>simp only [R5,List.length_cons,ih]; omega
theorem acells_app (a b:List (ByteArray × ByteArray)):R5 (a ++ b) = R5 a ++ R5 b:=by
 induction a with
 | nil=>rfl
 | cons x r ih=>simp [R5,ih]
theorem FoV.len {ts:Fo} {v:AV} (h:FoV ts v):P3 v = some ts.len:=by
 rcases h with ⟨h,rfl⟩ | ⟨row,tok,rfl,_⟩
 ·rw [h]; rfl
 ·rfl
theorem a2l.len {ats:List (ByteArray × ByteArray)} {v:AV} (h:a2l ats v):P3 v = some ats.length:=by
 rcases h with ⟨rfl,rfl⟩ | ⟨row,tok,rfl⟩ <;> rfl
theorem a26 {pre suf:List (ByteArray × ByteArray)} {x:ByteArray × ByteArray} {v:AV} (h:a2l (pre ++ x :: suf) v) {i:Int} (hi:i = (pre.length:Nat)):ia 2 v (.int .i64 i) = some (.ip [.str x.1, .str x.2]):=by
 subst hi
 rcases h with ⟨h,_⟩ | ⟨rest,tok,rfl⟩
 ·simp at h
 ·have hlt:pre.length < (pre ++ x :: suf).length:=by simp
  have hl:(R5 (pre ++ x :: suf) ++ rest).length = (pre.length + suf.length + 1) * 2 + rest.length:=by
   rw [List.length_append,Z4]; simp; omega
  have hc:(pre.length + 1) * 2 ≤ (R5 (pre ++ x :: suf) ++ rest).length:=by rw [hl]; omega
  simp only [ia,P9 hlt,Option.bind_some,hc,if_true]
  rw [acells_app,List.append_assoc,←Z4 pre,List.drop_left]
  rfl
theorem a4J {tag text:ByteArray} {ats:List (ByteArray × ByteArray)} {kids rest:Fo} {row:List AV} {i:Nat} (h:Row (.cons tag text ats kids rest) (row.drop (i * 4))) :
  ∃ a k,a2l ats a∧FoV kids k∧Row rest (row.drop ((i + 1) * 4))∧row.length ≥ (i + 1) * 4∧∀ n tok,i < n→ia 4 (.is row n tok) (.int .i64 (i:Int)) = some (.ip [.str tag, .str text,a,k]):=by
 obtain ⟨a,k,r,h1,h2,h3,h4⟩:=h
 have hl:(row.drop (i * 4)).length = r.length + 4:=by rw [h1]; simp
 rw [List.length_drop] at hl
 have hd:row.drop ((i + 1) * 4) = r:=by
  rw [show (i + 1) * 4 = i * 4 + 4 by omega,←List.drop_drop,h1]
  rfl
 refine ⟨a,k,h2,?_,by rw [hd]; exact h4,by omega,fun n tok hn=>?_⟩
 ·rcases h3 with ⟨h3,h5⟩ | h3
  ·exact .inl ⟨h3,h5⟩
  ·exact .inr h3
 ·have hc:(i + 1) * 4 ≤ row.length:=by omega
  simp only [ia,P9 hn,Option.bind_some,hc,if_true]
  rw [h1]
  rfl
section
variable (a b c d:AV) (st:Sto)
theorem f0:fa 0 1 (.ip [a,b,c,d]) = some (.ip [a]):=rfl
theorem f1:fa 1 1 (.ip [a,b,c,d]) = some (.ip [b]):=rfl
theorem f2:fa 2 1 (.ip [a,b,c,d]) = some (.ip [c]):=rfl
theorem f3:fa 3 1 (.ip [a,b,c,d]) = some (.ip [d]):=rfl
theorem g0:fa 0 1 (.ip [a,b]) = some (.ip [a]):=rfl
theorem g1:fa 1 1 (.ip [a,b]) = some (.ip [b]):=rfl
theorem l1:ld false 1 st (.ip [a]) = some a:=rfl
theorem l2:ld true 2 st (.ip [a,b]) = some (.agg [a,b]):=rfl
theorem l4:ld true 4 st (.ip [a,b,c,d]) = some (.agg [a,b,c,d]):=rfl
theorem nk (cs:List AV):O2 (.ip cs) = some (.ip cs):=rfl
end
theorem O8 {st:Sto} {id g fz n:Nat} {cs:List AV} {x:AV} (h:st[id]? = some (.cells g cs fz)) (hx:cs[n]? = some x):ld false 1 st (.mp id g n) = some x:=by
 have hl:n < cs.length:=(List.getElem?_eq_some_iff.1 hx).1
 have h1:n + 1 ≤ cs.length:=hl
 have h2:(cs.drop n).take 1 = [x]:=by
  rw [List.drop_eq_getElem_cons hl]
  simp only [List.take_succ_cons,List.take_zero]
  rw [(List.getElem?_eq_some_iff.1 hx).2]
 simp only [ld,V7,h,h1,true_and,if_true,Option.bind_some,h2]
 rfl
theorem Z7 {st:Sto} {id g fz n:Nat} {cs:List AV} (h:st[id]? = some (.cells g cs fz)) (hn:cs.length = n):ld true n st (.mp id g 0) = some (.agg cs):=by
 subst hn
 simp only [ld,V7,h,Nat.zero_add,Nat.le_refl,true_and,if_true,Option.bind_some,List.drop_zero,List.take_length]
 rfl
theorem a3P {st:Sto} {cs cs':List AV} (hc:cs'.all AV.isCell = true) (hl:cs'.length = cs.length) {n:Nat} (hn:cs.length = n):sto n (st ++ [Ob.cells 0 cs 0]) (.mp st.length 0 0) (.agg cs') = some (st ++ [Ob.cells 0 cs' 0]):=by
 have h1:(st ++ [Ob.cells 0 cs 0])[st.length]? = some (.cells 0 cs 0):=by simp
 have h2:cs'.length ≤ cs.length:=by omega
 have h3:(AV.cells (.agg cs')).length = n:=by show cs'.length = n; omega
 have h4:((AV.agg cs').cells) = cs':=rfl
 unfold sto
 rw [if_pos h3,h4]
 simp only [W6,h1,Nat.zero_add,h2,hc,Nat.le_refl,true_and,and_self,if_true,splice,List.take_zero,List.nil_append]
 rw [List.drop_of_length_le (by omega)]
 simp
theorem isNaN_spec (s:ByteArray) (st:Sto):O1 ap 112 [.str s] st = some (.ret (.bool false),st):=by
 rw [D8.call]
 refine O7 ?_ rfl rfl (O5.refl _ _)
 rw [D8.b_eq]
 simp
theorem compare_spec (a b:ByteArray) (st:Sto):∃ n:Int,O1 ap 110 [.str a, .str b] st = some (.ret (.int .i64 n),st)∧decide (0 ≤ n) = !Z6 a b:=by
 have key:∀ (n:Int),C2.b a b st = some ⟨.ret (.int .i64 n),none,st⟩→O1 ap 110 [.str a, .str b] st = some (.ret (.int .i64 n),st):=by
  intro n h
  rw [C2.call]
  exact O7 h rfl rfl (O5.refl _ _)
 have h:=C2.b_eq a b st
 simp only [isNaN_spec,Option.bind_some,Out.on,asB,cond_false] at h
 cases hl:Z6 a b with
 | true=>
  simp only [hl,cond_true] at h
  exact ⟨-1,key _ h,rfl⟩
 | false=>
  simp only [hl,cond_false,Bool.false_or] at h
  cases he:decide (a = b) with
  | true=>simp only [he,Bool.not_true,cond_false] at h; exact ⟨0,key _ h,rfl⟩
  | false=>simp only [he,Bool.not_false,cond_true] at h; exact ⟨1,key _ h,rfl⟩
noncomputable def aOk:Option ByteArray→List (ByteArray × ByteArray)→Bool
 | _,[]=>true
 | p,x :: r=>((match p with | none=>true | some q=>Z6 q x.1) && (a0q x.1 45 && okT x.2)) && aOk (some x.1) r
noncomputable def alone (tag text:ByteArray) (ats:List (ByteArray × ByteArray)) (kids:Fo):Bool:=
 bif decide (tag = ⟨#[]⟩) then decide (ats.length = 0) && (decide (kids.len = 0) && okT text) else (aOk none ats && (a0q tag 45 && decide (text = ⟨#[]⟩)))
theorem text_ok (s:ByteArray) (hs:s.size < 9223372036854775800) (st:Sto):O1 ap 109 [.str s] st = some (.ret (.bool (okT s)),st):=by
 obtain ⟨r,hr⟩:=scan_ex s s.size 0 (by omega) (by omega)
 rw [E7.call]
 refine O7 ?_ rfl rfl (O5.refl _ _)
 rw [E7.b_eq]
 unfold okT
 cases r with
 | none=>
  have e:(((ByteArray.size s:Nat):Int) ≤ 4096) = (s.size ≤ 4096):=propext ⟨fun h=>by omega,fun h=>by omega⟩
  simp only [a12 hs hr,V0,Option.bind_some,Out.on,ext,List.getElem?_cons_zero,List.getElem?_cons_succ,asI,if_true,decide_true,cond_true,e,hr,Bool.true_and]
 | some a=>
  have e:¬ Scan s 0 none:=fun h=>by have:=scan_det h hr; cases this
  simp only [a12 hs hr,V0,Option.bind_some,Out.on,ext,List.getElem?_cons_zero,List.getElem?_cons_succ,asI,if_true,show decide ((300:Int) = 0) = false from rfl,cond_false,e,decide_false,Bool.false_and]
def prev (pre:List (ByteArray × ByteArray)):Option ByteArray:=(pre.getLast?).map (·.1)
theorem a1T (pre:List (ByteArray × ByteArray)) (x:ByteArray × ByteArray):prev (pre ++ [x]) = some x.1:=by simp [prev]
open Classical in
theorem formed_loop {tag text:ByteArray} {a k:AV} {ats:List (ByteArray × ByteArray)} (ha:a2l ats a) (hs:asz ats ≤ 1050000) (ht:tag.size ≤ 1050000) (n:Nat) :
  ∀ (suf pre:List (ByteArray × ByteArray)),ats = pre ++ suf→∀ st:Sto,n ≤ st.length →
   ∃ st',o9.F0 (.ip [.str tag, .str text,a,k]) a ((ats.length:Nat):Int) ((pre.length:Nat):Int) st = some ⟨.ret (.bool (aOk (prev pre) suf && (a0q tag 45 && decide (text = ⟨#[]⟩)))),none,st'⟩∧O5 n st st':=by
 intro suf
 induction suf with
 | nil=>
  intro pre hp st hn
  rw [List.append_nil] at hp
  subst hp
  refine ⟨st,?_,O5.refl _ _⟩
  rw [o9.F0_e]
  simp only [Int.lt_irrefl,decide_false,cond_false,nk,f0,f1,l1,Option.bind_some,tag_spec tag (by omega),Out.on,R3,gOn,asS,aOk,Bool.true_and]
  cases a0q tag 45 <;> simp
 | cons x r ih=>
  intro pre hp st hn
  subst hp
  have hlen:(pre ++ x :: r).length ≤ 525000:=by have:=a23 (pre ++ x :: r); omega
  have hx:=asz_mem (ats:=pre ++ x :: r) (x:=x) (by simp)
  have hlt:(((pre.length:Nat):Int) < (((pre ++ x :: r).length:Nat):Int)):=by simp; omega
  have hw:IntKind.wrap .i64 (((pre.length:Nat):Int) + 1) = (((pre ++ [x]).length:Nat):Int):=by
   rw [w64 (pre.length + 1) (by omega) (by simp at hlen ⊢; omega)]
   simp
  obtain ⟨st1,hst1⟩:∃ s:Sto,s = st ++ [Ob.cells 0 [.str x.1, .str x.2] 0]:=⟨_,rfl⟩
  have hst:sto 2 (st ++ [Ob.cells 0 [.str ⟨#[]⟩, .str ⟨#[]⟩] 0]) (.mp st.length 0 0) (.agg [.str x.1, .str x.2]) = some st1:=by
   rw [hst1]
   exact a3P (cs:=[.str ⟨#[]⟩, .str ⟨#[]⟩]) (cs':=[.str x.1, .str x.2]) rfl rfl rfl
  have hg:st1[st.length]? = some (.cells 0 [.str x.1, .str x.2] 0):=by rw [hst1]; simp
  have h0:ld false 1 st1 (.mp st.length 0 0) = some (.str x.1):=O8 hg rfl
  have h1:ld false 1 st1 (.mp st.length 0 1) = some (.str x.2):=O8 hg rfl
  have hk:O5 n st st1:=by rw [hst1]; exact O5.app hn
  have nxt:=ih (pre ++ [x]) (by simp) st1 (Nat.le_trans hn hk.len)
  rw [a1T] at nxt
  obtain ⟨st',n1,n2⟩:=nxt
  have mid:∀ b:Bool,∃ st',o9.F3 (.ip [.str tag, .str text,a,k]) a (((pre ++ x :: r).length:Nat):Int) ((pre.length:Nat):Int) b st1 =
    some ⟨.ret (.bool ((!b && aOk (some x.1) r) && (a0q tag 45 && decide (text = ⟨#[]⟩)))),none,st'⟩∧O5 n st st':=by
   intro b
   rw [o9.F3_e,hw]
   cases b with
   | true=>exact ⟨st1,by simp,hk⟩
   | false=>exact ⟨st',by simpa using n1,hk.trans n2⟩
  have tl:∃ st',((ld false 1 st1 (.mp st.length 0 0)).bind fun v38=>(O1 ap 106 [v38] st1).bind fun x39=>x39.1.on (fun v40=>if x39.2 = st1 then ((asB v40).bind fun q42=>bif (!q42) then (o9.F3 (.ip [.str tag, .str text,a,k]) a (((pre ++ x :: r).length:Nat):Int) ((pre.length:Nat):Int) true st1) else ((ld false 1 st1 (.mp st.length 0 1)).bind fun v43=>(O1 ap 109 [v43] st1).bind fun x44=>x44.1.on (fun v45=>if x44.2 = st1 then ((asB v45).bind fun q47=>o9.F3 (.ip [.str tag, .str text,a,k]) a (((pre ++ x :: r).length:Nat):Int) ((pre.length:Nat):Int) (!q47) st1) else none) (fun e46=>none))) else none) (fun e41=>none)) =
    some ⟨.ret (.bool (((a0q x.1 45 && okT x.2) && aOk (some x.1) r) && (a0q tag 45 && decide (text = ⟨#[]⟩)))),none,st'⟩∧O5 n st st':=by
   simp only [h0,h1,Option.bind_some,tag_spec x.1 (by omega),text_ok x.2 (by omega),Out.on,asB,if_true]
   cases a0q x.1 45 with
   | false=>
    obtain ⟨s2,m1,m2⟩:=mid true
    refine ⟨s2,?_,m2⟩
    simp only [Bool.not_false,cond_true,m1,Bool.not_true,Bool.false_and]
   | true=>
    obtain ⟨s2,m1,m2⟩:=mid (!okT x.2)
    refine ⟨s2,?_,m2⟩
    simp only [Bool.not_true,cond_false,m1,Bool.not_not,Bool.true_and]
  rw [o9.F0_e]
  simp only [hlt,decide_true,cond_true,a26 ha rfl,Option.bind_some,l2,hst]
  rcases List.eq_nil_or_concat pre with rfl | ⟨pre',y,rfl⟩
  ·have hz:¬ ((0:Int) < (([]:List (ByteArray × ByteArray)).length:Nat)):=by simp
   simp only [hz,decide_false,cond_false]
   obtain ⟨s2,m1,m2⟩:=tl
   refine ⟨s2,m1.trans ?_,m2⟩
   simp only [aOk,prev,List.getLast?_nil,Option.map_none,Bool.true_and]
  ·rw [List.concat_eq_append] at *
   have hz:((0:Int) < (((pre' ++ [y]).length:Nat):Int)):=by rw [List.length_append]; simp only [List.length_cons,List.length_nil]; omega
   have hw1:IntKind.wrap .i64 ((((pre' ++ [y]).length:Nat):Int) - 1) = ((pre'.length:Nat):Int):=by
    rw [w64 pre'.length (by simp) (by simp at hlen; omega)]
   have ha':a2l (pre' ++ y :: (x :: r)) a:=by simpa using ha
   obtain ⟨c,c1,c2⟩:=compare_spec y.1 x.1 st1
   simp only [hz,decide_true,cond_true,nk,f2,l1,Option.bind_some,hw1,a26 ha' rfl,g0,h0,c1,Out.on,if_true,asI,c2,a1T]
   cases hsl:Z6 y.1 x.1 with
   | false=>
    obtain ⟨s2,m1,m2⟩:=mid true
    refine ⟨s2,?_,m2⟩
    simp only [Bool.not_false,cond_true,m1,Bool.not_true,Bool.false_and,aOk,hsl]
   | true=>
    obtain ⟨s2,m1,m2⟩:=tl
    refine ⟨s2,?_,m2⟩
    simp only [h0] at m1
    simp only [Option.bind_some] at m1
    simp only [Bool.not_true,cond_false,aOk,Bool.true_and,hsl]
    exact m1
theorem formed_spec {tag text:ByteArray} {a k:AV} {ats:List (ByteArray × ByteArray)} {kids:Fo} (ha:a2l ats a) (hk:FoV kids k) (hs:asz ats ≤ 1050000) (ht:tag.size ≤ 1050000) (hx:text.size ≤ 1050000) (st:Sto) :
  O1 ap 105 [.ip [.str tag, .str text,a,k]] st = some (.ret (.bool (alone tag text ats kids)),st):=by
 obtain ⟨st',l1',l2'⟩:=formed_loop (text:=text) (k:=k) ha hs ht st.length ats [] rfl st (Nat.le_refl _)
 rw [o9.call]
 unfold alone
 by_cases h:tag = ⟨#[]⟩
 ·subst h
  refine O7 ?_ rfl rfl (O5.refl _ _)
  rw [o9.b_eq]
  have e1:(((ats.length:Nat):Int) = 0) = (ats.length = 0):=propext ⟨fun h=>by omega,fun h=>by omega⟩
  have e2:(((kids.len:Nat):Int) = 0) = (kids.len = 0):=propext ⟨fun h=>by omega,fun h=>by omega⟩
  simp only [nk,f0,f1,f2,f3,l1,Option.bind_some,asS,decide_true,cond_true,ha.len,hk.len,e1,e2,text_ok text (by omega),Out.on,asB]
  cases decide (ats.length = 0) <;> cases decide (kids.len = 0) <;> simp
 ·refine O7 ?_ rfl rfl l2'
  rw [o9.b_eq]
  simp only [nk,f0,f2,l1,Option.bind_some,asS,h,decide_false,cond_false,ha.len]
  exact l1'
end Go.Proofs.YtcgepgahgihojaaGreatDoor
namespace Go.Proofs.YtcgepgahgihojaaGreatDoor
open Go.St Go.Lib
set_option linter.unusedVariables false
set_option linter.unusedSimpArgs false
theorem ret_set {b:Option Res} {v:AV} {st:Sto} {id:Nat} {o:Ob} {l:Sto} (h:b = some ⟨.ret v,none,st.set id o ++ l⟩) (hs:v.strip st.length = v) (ho:v.old st.length = true) (hoo:o.old st.length = true) :
  (b.bind fun r=>some (gc st (r.out,r.st))) = some (.ret v,st.set id o):=by
 rw [h]
 simp only [Option.bind_some]
 have hc:(((Out.ret v).val.strip st.length).old st.length = true∧st.length ≤ (st.set id o ++ l).length∧Kept st.length st (st.set id o ++ l)):=by
  refine ⟨by simp only [Out.val,hs]; exact ho,by simp,fun i hi=>?_⟩
  rw [List.getElem?_append_left (by simpa using hi)]
  by_cases h:id = i
  ·subst h
   exact .inr ⟨o,List.getElem?_set_self hi,hoo⟩
  ·exact .inl (List.getElem?_set_ne h)
 have ht:(st.set id o ++ l).take st.length = st.set id o:=by
  have:(st.set id o).length = st.length:=by simp
  rw [←this,List.take_left]
 unfold gc
 rw [if_pos hc]
 simp only [Out.map,hs,ht]
theorem R1 {st:Sto} {id:Nat} {o:Ob} (h:st[id]? = some o):st.set id o = st:=by
 apply List.ext_getElem?
 intro i
 by_cases hi:id = i
 ·subst hi
  rw [List.getElem?_set_self (List.getElem?_eq_some_iff.1 h).1,h]
 ·rw [List.getElem?_set_ne hi]
theorem mxI_nat (a b:Nat):mxI (a:Int) (b:Int) = ((max a b:Nat):Int):=by
 unfold mxI
 omega
theorem U8 {st:Sto} {id k:Nat} {cs:List AV} {x:AV} (h:st[id]? = some (.cells 0 cs 0)) (hk:k < cs.length) (hx:x.isCell = true) (hc:x.cells = [x]):sto 1 st (.mp id 0 k) x = some (st.set id (.cells 0 (cs.set k x) 0)):=by
 have h1:k + [x].length ≤ cs.length:=hk
 have h2:([x]).all AV.isCell = true:=by simp [hx]
 have h3:splice cs k [x] = cs.set k x:=by
  unfold splice
  rw [List.set_eq_take_append_cons_drop,if_pos hk]
  rfl
 unfold sto
 rw [hc,if_pos (show [x].length = 1 from rfl)]
 simp only [W6,h,h1,h2,h3,Nat.zero_le,true_and,and_self,if_true]
noncomputable def fault (m d:Nat) (tag text:ByteArray) (ats:List (ByteArray × ByteArray)) (kids:Fo):Nat:=
 if 4096 < m + 1 then 702 else if 64 < d then 701 else if alone tag text ats kids = true then 0 else 700
noncomputable def wk:Fo→Nat→Nat→Nat→Nat × Nat × Nat
 | .nil,m,_,dm=>(m,dm,0)
 | .cons tag text ats kids rest,m,d,dm=>
  if fault m d tag text ats kids = 0 then
   (if (wk kids (m + 1) (d + 1) (max dm d)).2.2 = 0 then wk rest (wk kids (m + 1) (d + 1) (max dm d)).1 d (wk kids (m + 1) (d + 1) (max dm d)).2.1 else wk kids (m + 1) (d + 1) (max dm d))
  else (m + 1,max dm d,fault m d tag text ats kids)
theorem fault_le {m d:Nat} {tag text:ByteArray} {ats:List (ByteArray × ByteArray)} {kids:Fo} (h:fault m d tag text ats kids = 0):m + 1 ≤ 4096∧d ≤ 64:=by
 unfold fault at h
 split at h
 ·cases h
 ·split at h
  ·cases h
  ·omega
theorem wk_le (ts:Fo):∀ m d dm,m ≤ 4096→(wk ts m d dm).1 ≤ 4097∧((wk ts m d dm).2.2 = 0→(wk ts m d dm).1 ≤ 4096):=by
 induction ts with
 | nil=>intro m d dm h; simp only [wk]; omega
 | cons tag text ats kids rest ihk ihr=>
  intro m d dm h
  simp only [wk]
  by_cases hf:fault m d tag text ats kids = 0
  ·have:=fault_le hf
   have h1:=ihk (m + 1) (d + 1) (max dm d) (by omega)
   simp only [hf,if_true]
   by_cases he:(wk kids (m + 1) (d + 1) (max dm d)).2.2 = 0
   ·simp only [he,if_true]
    exact ihr _ _ _ (h1.2 he)
   ·simp only [he,if_false]
    exact ⟨h1.1,fun h=>h.elim⟩
  ·simp only [hf,if_false]
   exact ⟨by omega,fun h=>h.elim⟩
def cnt (m dm e:Nat):Ob := .cells 0 [.int .i64 (m:Nat), .int .i64 (dm:Nat), .int .i64 (e:Nat)] 0
def WalkOk (ts:Fo):Prop:=∀ (row:List AV) (n i m d dm:Nat) (tok:Tok) (st:Sto) (id:Nat),Row ts (row.drop (i * 4))→n = i + ts.len→ts.sz ≤ 1050000→n ≤ 1050000→m ≤ 4096→d ≤ 65→st[id]? = some (cnt m dm 0) →
 p6.F4 (.is row n tok) (d:Int) (.mp id 0 0) ((n:Nat):Int) ((i:Nat):Int) st =
  some ⟨.ret (.bool (decide ((wk ts m d dm).2.2 = 0))),none,st.set id (cnt (wk ts m d dm).1 (wk ts m d dm).2.1 (wk ts m d dm).2.2)⟩
theorem walk_of {ts:Fo} (H:WalkOk ts) {v:AV} (hv:FoV ts v) (hs:ts.sz ≤ 1050000) {m d dm:Nat} (hm:m ≤ 4096) (hd:d ≤ 65) {st:Sto} {id:Nat} (hst:st[id]? = some (cnt m dm 0)) :
  O1 ap 92 [v, .int .i64 (d:Int), .mp id 0 0] st = some (.ret (.bool (decide ((wk ts m d dm).2.2 = 0))),st.set id (cnt (wk ts m d dm).1 (wk ts m d dm).2.1 (wk ts m d dm).2.2)):=by
 rw [p6.call]
 refine ret_set (l:=[]) ?_ rfl rfl rfl
 rw [p6.b_eq,List.append_nil,hv.len]
 simp only [Option.bind_some]
 rcases hv with ⟨h0,rfl⟩ | ⟨row,tok,rfl,hr⟩
 ·obtain rfl:=len_nil h0
  rw [p6.F4_e]
  have:=R1 hst
  simp [Fo.len,wk,this]
 ·have hl:=a1b ts
  have:=H row ts.len 0 m d dm tok st id (by simpa using hr) (by omega) hs (by omega) hm hd hst
  simpa using this
theorem walk_all (ts:Fo):WalkOk ts:=by
 induction ts with
 | nil=>
  intro row n i m d dm tok st id hr hn hs hb hm hd hst
  simp only [Fo.len] at hn
  rw [p6.F4_e]
  have:=R1 hst
  have hlt:¬ (((i:Nat):Int) < ((n:Nat):Int)):=by omega
  simp only [hlt,decide_false,cond_false,wk,this,decide_true]
 | cons tag text ats kids rest ihk ihr=>
  intro row n i m d dm tok st id hr hn hs hb hm hd hst
  simp only [Fo.len] at hn
  simp only [Fo.sz] at hs
  obtain ⟨a,k,ha,hk,hr',hlen,hia⟩:=a4J hr
  have hia:=hia n tok (by omega)
  have hid:=(List.getElem?_eq_some_iff.1 hst).1
  have hget:∀ o:Ob,(st.set id o)[id]? = some o:=fun o=>List.getElem?_set_self hid
  have hss:∀ o o':Ob,(st.set id o).set id o' = st.set id o':=fun o o'=>by rw [List.set_set]
  have c0:∀ (x y z:Nat) (s:Sto),s[id]? = some (cnt x y z)→ld false 1 s (.mp id 0 (0 + 0)) = some (.int .i64 (x:Nat)):=fun x y z s h=>O8 h rfl
  have c1:∀ (x y z:Nat) (s:Sto),s[id]? = some (cnt x y z)→ld false 1 s (.mp id 0 (0 + 1)) = some (.int .i64 (y:Nat)):=fun x y z s h=>O8 h rfl
  have c2:∀ (x y z:Nat) (s:Sto),s[id]? = some (cnt x y z)→ld false 1 s (.mp id 0 (0 + 2)) = some (.int .i64 (z:Nat)):=fun x y z s h=>O8 h rfl
  have u0:∀ (x y z w:Nat),sto 1 (st.set id (cnt x y z)) (.mp id 0 (0 + 0)) (.int .i64 (w:Nat)) = some (st.set id (cnt w y z)):=fun x y z w=>by
   exact (U8 (k:=0) (cs:=[.int .i64 (x:Nat), .int .i64 (y:Nat), .int .i64 (z:Nat)]) (hget (cnt x y z)) (by simp) rfl rfl).trans (by rw [hss]; rfl)
  have u1:∀ (x y z w:Nat),sto 1 (st.set id (cnt x y z)) (.mp id 0 (0 + 1)) (.int .i64 (w:Nat)) = some (st.set id (cnt x w z)):=fun x y z w=>by
   exact (U8 (k:=1) (cs:=[.int .i64 (x:Nat), .int .i64 (y:Nat), .int .i64 (z:Nat)]) (hget (cnt x y z)) (by simp) rfl rfl).trans (by rw [hss]; rfl)
  have u2:∀ (x y z w:Nat),sto 1 (st.set id (cnt x y z)) (.mp id 0 (0 + 2)) (.int .i64 (w:Nat)) = some (st.set id (cnt x y w)):=fun x y z w=>by
   exact (U8 (k:=2) (cs:=[.int .i64 (x:Nat), .int .i64 (y:Nat), .int .i64 (z:Nat)]) (hget (cnt x y z)) (by simp) rfl rfl).trans (by rw [hss]; rfl)
  have hu:sto 1 st (.mp id 0 (0 + 0)) (.int .i64 ((m + 1:Nat):Int)) = some (st.set id (cnt (m + 1) dm 0)):=by
   exact U8 (k:=0) (cs:=[.int .i64 (m:Nat), .int .i64 (dm:Nat), .int .i64 ((0:Nat):Int)]) hst (by simp) rfl rfl
  have wm:IntKind.wrap .i64 ((m:Int) + 1) = ((m + 1:Nat):Int):=w64 _ (by omega) (by omega)
  have wi:IntKind.wrap .i64 ((i:Int) + 1) = ((i + 1:Nat):Int):=w64 _ (by omega) (by omega)
  have nm:O2 (.mp id 0 0) = some (.mp id 0 0):=rfl
  have a0:fa 0 1 (.mp id 0 0) = some (.mp id 0 (0 + 0)):=rfl
  have a1:fa 1 1 (.mp id 0 0) = some (.mp id 0 (0 + 1)):=rfl
  have a2:fa 2 1 (.mp id 0 0) = some (.mp id 0 (0 + 2)):=rfl
  have hlt:(((i:Nat):Int) < ((n:Nat):Int)):=by omega
  have mid:∀ e:Nat,(e = 0→m + 1 ≤ 4096∧d ≤ 64)→e = fault m d tag text ats kids →
    p6.G7 (.is row n tok) (d:Int) (.mp id 0 0) ((i:Nat):Int) ((n:Nat):Int) ((i:Nat):Int) (st.set id (cnt (m + 1) dm e)) =
     some ⟨.ret (.bool (decide ((wk (.cons tag text ats kids rest) m d dm).2.2 = 0))),none,st.set id (cnt (wk (.cons tag text ats kids rest) m d dm).1 (wk (.cons tag text ats kids rest) m d dm).2.1 (wk (.cons tag text ats kids rest) m d dm).2.2)⟩:=by
   intro e he hf
   rw [p6.G7_e]
   have hu1:=u1 (m + 1) dm e (max dm d)
   simp only [nm,a0,a1,a2,Option.bind_some,c1 _ _ _ _ (hget (cnt (m + 1) dm e)),asI,if_true,mxI_nat,hu1,c2 _ _ _ _ (hget (cnt (m + 1) (max dm d) e))]
   by_cases h0:e = 0
   ·subst h0
    obtain ⟨hm1,hd1⟩:=he rfl
    have wd:IntKind.wrap .i64 ((d:Int) + 1) = ((d + 1:Nat):Int):=w64 _ (by omega) (by omega)
    have hwk:=walk_of ihk hk (m:=m + 1) (d:=d + 1) (dm:=max dm d) (by omega) hm1 (by omega) (hget (cnt (m + 1) (max dm d) 0))
    simp only [Int.natCast_zero,decide_true,Bool.not_true,cond_false,hia,f3,l1,Option.bind_some,wd,hwk,Out.on,asB,hss]
    rw [p6.K5_e,wi]
    simp only [wk,←hf,if_true]
    by_cases hz:(wk kids (m + 1) (d + 1) (max dm d)).2.2 = 0
    ·have hle:=(wk_le kids (m + 1) (d + 1) (max dm d) hm1).2 hz
     simp only [hz,decide_true,Bool.not_true,cond_false,if_true]
     have:=ihr row n (i + 1) (wk kids (m + 1) (d + 1) (max dm d)).1 d (wk kids (m + 1) (d + 1) (max dm d)).2.1 tok (st.set id (cnt (wk kids (m + 1) (d + 1) (max dm d)).1 (wk kids (m + 1) (d + 1) (max dm d)).2.1 0)) id hr' (by omega) (by omega) hb hle hd (hget _)
     rw [this,hss]
    ·simp only [hz,decide_false,Bool.not_false,cond_true,if_false]
   ·have hz:¬ (((e:Nat):Int) = 0):=by omega
    subst hf
    simp only [hz,decide_false,Bool.not_false,cond_true,p6.K5_e,wk,h0,if_false]
  rw [p6.F4_e]
  have hc:cnt m dm 0 = cnt m dm 0:=rfl
  simp only [hlt,decide_true,cond_true,nm,a0,a1,a2,Option.bind_some,c0 _ _ _ _ hst,asI,if_true,wm,hu,c0 _ _ _ _ (hget (cnt (m + 1) dm 0))]
  by_cases h1:4096 < m + 1
  ·have h1':((4096:Int) < ((m + 1:Nat):Int)):=by omega
   have:=u2 (m + 1) dm 0 702
   simp only [h1',decide_true,cond_true]
   rw [show ((702:Int)) = ((702:Nat):Int) from rfl,this]
   exact mid 702 (by omega) (by unfold fault; rw [if_pos h1])
  ·have h1':¬ ((4096:Int) < ((m + 1:Nat):Int)):=by omega
   by_cases h2:64 < d
   ·have h2':((64:Int) < ((d:Nat):Int)):=by omega
    have:=u2 (m + 1) dm 0 701
    simp only [h1',h2',decide_true,decide_false,cond_true,cond_false]
    rw [show ((701:Int)) = ((701:Nat):Int) from rfl,this]
    exact mid 701 (by omega) (by unfold fault; rw [if_neg h1,if_pos h2])
   ·have h2':¬ ((64:Int) < ((d:Nat):Int)):=by omega
    simp only [h1',h2',decide_false,cond_false,hia,Option.bind_some,formed_spec (tag:=tag) (text:=text) ha hk (by omega) (by omega) (by omega),Out.on,asB]
    cases hal:alone tag text ats kids with
    | true=>
     simp only [Bool.not_true,cond_false]
     exact mid 0 (by omega) (by unfold fault; rw [if_neg h1,if_neg h2,if_pos hal])
    | false=>
     have:=u2 (m + 1) dm 0 700
     simp only [Bool.not_false,cond_true]
     rw [show ((700:Int)) = ((700:Nat):Int) from rfl,this]
     exact mid 700 (by omega) (by unfold fault; rw [if_neg h1,if_neg h2,if_neg (by rw [hal]; decide)])
noncomputable def look (ts:Fo):Nat × Nat × Nat:=if (wk ts 0 1 0).2.2 = 0 then wk ts 0 1 0 else (0,0,(wk ts 0 1 0).2.2)
theorem a3u {ts:Fo} {v:AV} (hv:FoV ts v) (hs:ts.sz ≤ 1050000) (st:Sto) :
  O1 ap 58 [v] st = some (.ret (.agg [.int .i64 ((look ts).1:Nat), .int .i64 ((look ts).2.1:Nat), .int .i64 ((look ts).2.2:Nat)]),st):=by
 have hlen:(st ++ [cnt 0 0 0]).length = st.length + 1:=by simp
 have hg:(st ++ [cnt 0 0 0] ++ [cnt 0 0 0])[st.length + 1]? = some (cnt 0 0 0):=by
  rw [List.getElem?_append_right (by simp)]
  simp
 have hw:=walk_of (walk_all ts) hv hs (m:=0) (d:=1) (dm:=0) (by omega) (by omega) hg
 have hset:∀ o:Ob,(st ++ [cnt 0 0 0] ++ [cnt 0 0 0]).set (st.length + 1) o = st ++ [cnt 0 0 0] ++ [o]:=by
  intro o
  rw [List.set_append_right _ _ (by simp)]
  simp
 rw [hset] at hw
 have g1:∀ o:Ob,(st ++ [cnt 0 0 0] ++ [o])[st.length + 1]? = some o:=by
  intro o
  rw [List.getElem?_append_right (by simp)]
  simp
 have g0:∀ o:Ob,(st ++ [cnt 0 0 0] ++ [o])[st.length]? = some (cnt 0 0 0):=by
  intro o
  rw [List.getElem?_append_left (by simp)]
  simp
 rw [E2.call]
 suffices h:∃ st',E2.b v st = some ⟨.ret (.agg [.int .i64 ((look ts).1:Nat), .int .i64 ((look ts).2.1:Nat), .int .i64 ((look ts).2.2:Nat)]),none,st'⟩∧O5 st.length st st' by
  obtain ⟨st',h1,h2⟩:=h
  exact O7 h1 rfl rfl h2
 rw [E2.b_eq]
 have hc:(Ob.cells 0 [.int .i64 0, .int .i64 0, .int .i64 0] 0) = cnt 0 0 0:=rfl
 rw [hc,hlen]
 have hw':=hw
 rw [show (((1:Nat):Int)) = 1 from rfl] at hw'
 simp only [hw',Option.bind_some,Out.on,asB]
 have put:∀ (s:Sto) (x y z:Nat),s[st.length]? = some (cnt 0 0 0)→sto 3 s (.mp st.length 0 0) (.agg [.int .i64 (x:Nat), .int .i64 (y:Nat), .int .i64 (z:Nat)]) = some (s.set st.length (cnt x y z)):=by
  intro s x y z h
  simp [sto,W6,AV.cells,AV.isCell,cnt,splice] at h ⊢
  simp [h]
 have get3:∀ (s:Sto) (x y z:Nat),st.length < s.length→ld true 3 (s.set st.length (cnt x y z)) (.mp st.length 0 0) = some (.agg [.int .i64 (x:Nat), .int .i64 (y:Nat), .int .i64 (z:Nat)]):=
  fun s x y z h=>Z7 (cs:=[.int .i64 (x:Nat), .int .i64 (y:Nat), .int .i64 (z:Nat)]) (List.getElem?_set_self h) rfl
 have keep:∀ (o o':Ob),O5 st.length st ((st ++ [cnt 0 0 0] ++ [o]).set st.length o'):=by
  intro o o'
  refine O5.trans ?_ (O5.set (Nat.le_refl _))
  rw [List.append_assoc]
  exact O5.app (Nat.le_refl _)
 unfold look
 by_cases hz:(wk ts 0 1 0).2.2 = 0
 ·simp only [hz,decide_true,Bool.not_true,cond_false,if_true]
  have e1:=Z7 (g:=0) (n:=3) (g1 (cnt (wk ts 0 1 0).1 (wk ts 0 1 0).2.1 0)) rfl
  rw [e1]
  simp only [Option.bind_some]
  rw [put _ _ _ _ (g0 _)]
  simp only [Option.bind_some]
  rw [get3 _ _ _ _ (by simp)]
  exact ⟨_,rfl,keep _ _⟩
 ·simp only [hz,decide_false,Bool.not_false,cond_true,if_false]
  have e1:=O8 (n:=2) (g:=0) (x := .int .i64 ((wk ts 0 1 0).2.2:Nat)) (g1 (cnt (wk ts 0 1 0).1 (wk ts 0 1 0).2.1 (wk ts 0 1 0).2.2)) rfl
  rw [e1]
  simp only [Option.bind_some]
  have ef:(X3 (O9 (fun i=>([(0,1),(1,1),(2,1)]:List (Nat × Nat))[i]?) [.int .i64 0, .int .i64 0, .int .i64 0] [(2, .int .i64 ((wk ts 0 1 0).2.2:Nat))])) = some (.agg [.int .i64 ((0:Nat):Int), .int .i64 ((0:Nat):Int), .int .i64 ((wk ts 0 1 0).2.2:Nat)]):=rfl
  rw [ef]
  simp only [Option.bind_some]
  rw [put _ _ _ _ (g0 _)]
  simp only [Option.bind_some]
  rw [get3 _ _ _ _ (by simp)]
  exact ⟨_,rfl,keep _ _⟩
section
variable {ts:Fo} {v:AV} (hv:FoV ts v) (hs:ts.sz ≤ 1050000) (st:Sto)
include hv hs
theorem check_spec:O1 ap 32 [v] st = some (.ret (.int .i64 ((look ts).2.2:Nat)),st):=by
 rw [E4.call]
 refine O7 ?_ rfl rfl (O5.refl _ _)
 rw [E4.b_eq,a3u hv hs]
 rfl
theorem depth_spec:O1 ap 95 [v] st = some (.ret (.int .i64 ((look ts).2.1:Nat)),st):=by
 rw [E5.call]
 refine O7 ?_ rfl rfl (O5.refl _ _)
 rw [E5.b_eq,a3u hv hs]
 rfl
end
end Go.Proofs.YtcgepgahgihojaaGreatDoor
namespace Go.Proofs.YtcgepgahgihojaaGreatDoor
open Go.St Go.Lib
set_option linter.unusedVariables false
set_option linter.unusedSimpArgs false
def R8 (op:Int):Bool:=decide (30 ≤ op) && decide (op ≤ 33)
theorem a25 (op:Int) (st:Sto):O1 ap 90 [.int .i64 op] st = some (.ret (.bool (R8 op)),st):=by
 rw [E8.call]
 refine O7 ?_ rfl rfl (O5.refl _ _)
 rw [E8.b_eq]
 unfold R8
 by_cases h:30 ≤ op
 ·simp [h]
 ·simp [h]
def opN (op:Int):Int:=if op = 8 then 8 else if 12 ≤ op∧op ≤ 28 then op else 0
theorem a18 (op:Int) (st:Sto):O1 ap 104 [.int .i64 op] st = some (.ret (.int .i64 (opN op)),st):=by
 rw [z9.call]
 refine O7 ?_ rfl rfl (O5.refl _ _)
 rw [z9.b_eq]
 unfold opN
 by_cases h8:op = 8
 ·simp [h8]
 ·by_cases h:12 ≤ op
  ·by_cases h2:op ≤ 28
   ·have w1:IntKind.wrap .i64 (12 + op) = 12 + op:=wrap64 (by omega) (by omega)
    have w2:IntKind.wrap .i64 (12 + op - 12) = op:=by rw [wrap64 (by omega) (by omega)]; omega
    simp [h8,h,h2,z9.H8_e,w1,w2]
   ·simp [h8,h,h2,z9.H8_e]
  ·simp [h8,h,z9.H8_e]
def W3 (op:Int):Int × Int:=if 1 ≤ op∧op ≤ 6 then (0,1) else if opN op ≠ 0 then (2,-1) else if op = 30∨op = 31∨op = 32 then (1,-1) else if op = 33 then (0,0) else (1,0)
theorem wants_spec (op:Int) (st:Sto):O1 ap 88 [.int .i64 op] st = some (.ret (.tup [.int .i64 (W3 op).1, .int .i64 (W3 op).2]),st):=by
 rw [y4.call]
 refine O7 ?_ rfl rfl (O5.refl _ _)
 rw [y4.b_eq]
 unfold W3
 by_cases h1:1 ≤ op
 ·by_cases h6:op ≤ 6
  ·simp [h1,h6,y4.I0_e]
  ·simp only [h1,h6,decide_true,decide_false,cond_true,cond_false,y4.I0_e,a18,Option.bind_some,Out.on,asI,if_true,and_false,if_false]
   by_cases h0:opN op = 0
   ·by_cases a:op = 30
    ·simp [show opN 30 = 0 from rfl,a,y4.F7_e]
    ·by_cases b:op = 31
     ·simp [show opN 31 = 0 from rfl,b,y4.F7_e]
     ·by_cases c:op = 32
      ·simp [show opN 32 = 0 from rfl,c,y4.F7_e]
      ·by_cases d:op = 33
       ·simp [show opN 33 = 0 from rfl,d,y4.F7_e]
       ·simp [h0,a,b,c,d,y4.F7_e]
   ·simp [h0]
 ·simp only [h1,decide_false,cond_false,y4.I0_e,a18,Option.bind_some,Out.on,asI,if_true,false_and,if_false]
  have h0:opN op = 0:=by
   unfold opN
   rw [if_neg (by omega),if_neg (by omega)]
  have a:¬ op = 30:=by omega
  have b:¬ op = 31:=by omega
  have c:¬ op = 32:=by omega
  have d:¬ op = 33:=by omega
  simp [h0,a,b,c,d,y4.F7_e]
def a2B (op a:Int):Bool:=if op < 1∨33 < op then false else if op = 9 then decide (1 ≤ a) && decide (a ≤ 8) else if (4 ≤ op∧op ≤ 7)∨R8 op = true then true else decide (a = 0)
theorem codeForm_spec (op a:Int) (st:Sto):O1 ap 89 [.agg [.int .i64 op, .int .i64 a]] st = some (.ret (.bool (a2B op a)),st):=by
 have hc:AV.cells (.agg [.int .i64 op, .int .i64 a]) = [.int .i64 op, .int .i64 a]:=rfl
 obtain ⟨S,hS⟩:∃ S,S = st ++ [Ob.cells 0 [.int .i64 op, .int .i64 a] 0]:=⟨_,rfl⟩
 have hg:S[st.length]? = some (.cells 0 [.int .i64 op, .int .i64 a] 0):=by rw [hS]; simp
 have g0:ld false 1 S (.mp st.length 0 0) = some (.int .i64 op):=O8 hg rfl
 have g1:ld false 1 S (.mp st.length 0 1) = some (.int .i64 a):=O8 hg rfl
 rw [y1.call]
 refine O7 (st':=S) ?_ rfl rfl (by rw [hS]; exact O5.app (Nat.le_refl _))
 rw [y1.b_eq,hc,if_pos (show [AV.int .i64 op, .int .i64 a].all AV.isCell = true from rfl),←hS]
 unfold a2B
 simp only [g0,Option.bind_some,asI,if_true]
 by_cases h1:op < 1
 ·simp [h1,y1.I0_e]
 ·by_cases h2:33 < op
  ·simp [h1,h2,y1.I0_e]
  ·simp only [h1,h2,decide_false,cond_false,y1.I0_e,g0,g1,Option.bind_some,asI,if_true,or_self,if_false]
   by_cases h9:op = 9
   ·by_cases ha:1 ≤ a <;> simp [h9,ha]
   ·simp only [h9,decide_false,cond_false,if_false]
    by_cases h4:4 ≤ op
    ·by_cases h7:op ≤ 7
     ·simp [h4,h7,y1.M1_e,y1.F7_e,asB]
     ·simp only [h4,h7,decide_true,decide_false,cond_true,y1.M1_e,cond_false,g0,Option.bind_some,a25,Out.on,y1.F7_e,asB,and_false,false_or]
      cases R8 op <;> simp [g1,asI]
    ·simp only [h4,decide_false,cond_false,y1.M1_e,g0,Option.bind_some,a25,Out.on,y1.F7_e,asB,false_and,false_or]
     cases R8 op <;> simp [g1,asI]
theorem gc_same {v:AV} {st st':Sto} (hl:st'.length = st.length) (hs:v.strip st.length = v):gc st (.ret v,st') = (.ret v,st'):=by
 unfold gc
 split
 ·simp only [Out.map,hs]
  rw [←hl,List.take_length]
 ·rfl
def O6 (hs:List Int):List AV:=hs.map (.int .i64)
def Y9 (hs:List Int) (to:Nat) (x:Int):List Int:=if hs.getD to 0 < 0 then hs.set to x else hs
theorem a0e (hs:List Int) (to:Nat) (x:Int):(Y9 hs to x).length = hs.length:=by
 unfold Y9
 split <;> simp
theorem lead_spec {st:Sto} {c hid:Nat} {code:AV} {texts depth:Int} {hs:List Int} {to:Nat} (x:Int) (hc:st[c]? = some (.cells 0 [code, .int .i64 texts, .int .i64 depth, .ms hid 0 0 hs.length 1] 0)) (hh:st[hid]? = some (.cells 0 (O6 hs) 0)) (hne:c ≠ hid) (hto:to < hs.length) :
  O1 ap 91 [.mp c 0 0, .int .i64 ((to:Nat):Int), .int .i64 x] st = some (.ret (.bool (decide ((Y9 hs to x).getD to 0 = x))),st.set hid (.cells 0 (O6 (Y9 hs to x)) 0)):=by
 have hn:O2 (.mp c 0 0) = some (.mp c 0 0):=rfl
 have f3:fa 3 1 (.mp c 0 0) = some (.mp c 0 (0 + 3)):=rfl
 have hia:ia 1 (.ms hid 0 0 hs.length 1) (.int .i64 ((to:Nat):Int)) = some (.mp hid 0 to):=by
  simp only [ia,if_true,P9 hto,Option.bind_some,Nat.zero_add,Nat.mul_one]
 have hidl:=(List.getElem?_eq_some_iff.1 hh).1
 have g3:∀ S:Sto,S[c]? = st[c]?→ld false 1 S (.mp c 0 (0 + 3)) = some (.ms hid 0 0 hs.length 1):=fun S h=>O8 (h.trans hc) rfl
 have gd:∀ (l:List Int),to < l.length→(O6 l)[to]? = some (.int .i64 (l.getD to 0)):=fun l h=>by
  simp [O6,List.getElem?_eq_getElem h,List.getD_eq_getElem?_getD]
 have r0:ld false 1 st (.mp hid 0 to) = some (.int .i64 (hs.getD to 0)):=O8 hh (gd hs hto)
 have two:∀ (S:Sto) (l:List Int),l.length = hs.length→S[c]? = st[c]?→S[hid]? = some (.cells 0 (O6 l) 0)→z6.p11 (.mp c 0 0) ((to:Nat):Int) x S = some ⟨.ret (.bool (decide (l.getD to 0 = x))),none,S⟩:=fun S l hl h1 h2=>by
  rw [z6.p11_eq]
  simp only [hn,f3,Option.bind_some,g3 S h1,hia,O8 (n:=to) h2 (gd l (by omega)),asI,if_true]
 have hb:z6.b (.mp c 0 0) ((to:Nat):Int) x st = some ⟨.ret (.bool (decide ((Y9 hs to x).getD to 0 = x))),none,st.set hid (.cells 0 (O6 (Y9 hs to x)) 0)⟩:=by
  rw [z6.b_eq]
  simp only [hn,f3,Option.bind_some,g3 st rfl,hia,r0,asI,if_true]
  unfold Y9
  by_cases h0:hs.getD to 0 < 0
  ·have hst:sto 1 st (.mp hid 0 to) (.int .i64 x) = some (st.set hid (.cells 0 (O6 (hs.set to x)) 0)):=by
    rw [U8 hh (by simpa [O6] using hto) rfl rfl]
    simp [O6,List.map_set]
   simp only [h0,decide_true,cond_true,hst,Option.bind_some,if_true]
   exact two _ (hs.set to x) (by simp) (List.getElem?_set_ne (Ne.symm hne)) (List.getElem?_set_self hidl)
  ·simp only [h0,decide_false,cond_false,if_false]
   rw [R1 hh]
   exact two st hs rfl rfl hh
 rw [z6.call,hb]
 simp only [Option.bind_some]
 rw [gc_same (by simp) rfl]
end Go.Proofs.YtcgepgahgihojaaGreatDoor
namespace Go.Proofs.YtcgepgahgihojaaGreatDoor
open Go.St Go.Lib
set_option linter.unusedVariables false
set_option linter.unusedSimpArgs false
theorem aI (n:Int):asI .i64 (.int .i64 n) = some n:=rfl
theorem aS (s:ByteArray):asS (.str s) = some s:=rfl
theorem aB (b:Bool):asB (.bool b) = some b:=rfl
theorem gB (b:Bool):R3 (.bool b) = some (some b):=rfl
theorem x0 (a:AV) (l:List AV):ext (.tup (a :: l)) 0 = some a:=rfl
theorem x1 (a b:AV) (l:List AV):ext (.tup (a :: b :: l)) 1 = some b:=rfl
theorem x2 (a b c:AV) (l:List AV):ext (.tup (a :: b :: c :: l)) 2 = some c:=rfl
theorem cr {c:Option (Out × Sto)} {v:AV} {st:Sto} {F G:Out × Sto→AV→Option Res} (h:c = some (.ret v,st)):(c.bind fun x=>x.1.on (F x) (G x)) = F (.ret v,st) v:=by rw [h]; rfl
theorem br {α:Type} {c:Option α} {a:α} {F:α→Option Res} (h:c = some a):c.bind F = F a:=by rw [h]; rfl
theorem bt {c:Bool} {x y:Option Res} (h:c = true):(bif c then x else y) = x:=by rw [h]; rfl
theorem bf {c:Bool} {x y:Option Res} (h:c = false):(bif c then x else y) = y:=by rw [h]; rfl
theorem it {p:Prop} {inst:Decidable p} {x y:Option Res} (h:p):(if p then x else y) = x:=if_pos h
theorem gs {no:Option Res} {yes:Bool→Option Res} {b:Bool}:gOn (some b) no yes = yes b:=rfl
theorem O4 {p:Prop} [Decidable p] (h:p):decide p = true:=decide_eq_true h
theorem O0 {p:Prop} [Decidable p] (h:¬ p):decide p = false:=decide_eq_false h
theorem P8 {S l:Sto} {n:Nat} {o:Ob} (h:S[n]? = some o):(S ++ l)[n]? = some o:=by
 rw [List.getElem?_append_left (List.getElem?_eq_some_iff.1 h).1,h]
def Q5:List (Int × Int)→List AV
 | []=>[]
 | x :: r => .int .i64 x.1 :: .int .i64 x.2 :: Q5 r
def a19 (code:List (Int × Int)) (v:AV):Prop:=(code = []∧v = .nils)∨∃ rest tok,v = .is (Q5 code ++ rest) code.length tok
theorem a0Q (l:List (Int × Int)):(Q5 l).length = l.length * 2:=by
 induction l with
 | nil=>rfl
 | cons x r ih=>simp only [Q5,List.length_cons,ih]; omega
theorem a24 (a b:List (Int × Int)):Q5 (a ++ b) = Q5 a ++ Q5 b:=by
 induction a with
 | nil=>rfl
 | cons x r ih=>simp [Q5,ih]
theorem a19.len {code:List (Int × Int)} {v:AV} (h:a19 code v):P3 v = some code.length:=by
 rcases h with ⟨rfl,rfl⟩ | ⟨row,tok,rfl⟩ <;> rfl
theorem a19.cell {code:List (Int × Int)} {v:AV} (h:a19 code v):v.isCell = true∧v.cells = [v]:=by
 rcases h with ⟨rfl,rfl⟩ | ⟨row,tok,rfl⟩ <;> exact ⟨rfl,rfl⟩
theorem a1v {code:List (Int × Int)} {v:AV} {i:Nat} {x:Int × Int} (h:a19 code v) (hx:code[i]? = some x):ia 2 v (.int .i64 ((i:Nat):Int)) = some (.ip [.int .i64 x.1, .int .i64 x.2]):=by
 have hi:=(List.getElem?_eq_some_iff.1 hx).1
 rcases h with ⟨h,_⟩ | ⟨rest,tok,rfl⟩
 ·rw [h] at hi; simp at hi
 ·have hsp:code = code.take i ++ x :: code.drop (i + 1):=by
   have e:=List.getElem?_eq_getElem hi
   rw [hx] at e
   cases e
   rw [←List.drop_eq_getElem_cons hi,List.take_append_drop]
  have hl:=a0Q code
  have hc:(i + 1) * 2 ≤ (Q5 code ++ rest).length:=by rw [List.length_append,hl]; omega
  simp only [ia,P9 hi,Option.bind_some,hc,if_true]
  have ht:(Q5 (code.take i)).length = i * 2:=by rw [a0Q,List.length_take]; congr 1; omega
  have:Q5 code ++ rest = Q5 (code.take i) ++ (Q5 (x :: code.drop (i + 1)) ++ rest):=by
   rw [←List.append_assoc,←a24,←hsp]
  rw [this,←ht,List.drop_left]
  rfl
def a2a (hs:List Int) (to:Nat) (x:Int):Bool:=decide ((Y9 hs to x).getD to 0 = x)
def a47 (op a:Int) (hs:List Int) (h:Int):Bool × List Int:=
 if op = 30 then (a2a hs a.toNat h,Y9 hs a.toNat h) else if op = 31 then (a2a hs a.toNat h,Y9 hs a.toNat h)
 else if op = 32 then (a2a hs a.toNat (IntKind.wrap .i64 (h - 1)),Y9 hs a.toNat (IntKind.wrap .i64 (h - 1)))
 else if op = 33 then (a2a hs a.toNat h,Y9 hs a.toNat h) else (true,hs)
def a2I (op:Int) (q:Bool × List Int) (i:Nat) (x:Int):Bool × List Int:=
 if op = 33 then q else if q.1 = true then (a2a q.2 (i + 1) x,Y9 q.2 (i + 1) x) else (false,q.2)
def a2C (q:Bool × List Int):Nat × List Int:=if q.1 = true then (0,q.2) else (2001,q.2)
def a38 (op a texts depth:Int):Bool:=if op = 5 then decide (a < 0) || decide (texts ≤ a) else if op = 7 then decide (a < 0) || decide (texts ≤ a) else if op = 6 then decide (a < 0) || decide (depth ≤ a) else false
def a0z (op a:Int) (n:Nat) (texts depth:Int) (hs:List Int) (i:Nat):Nat × List Int:=
 if hs.getD i 0 < 0 then (2001,hs)
 else if a2B op a = false then (2000,hs)
 else if a38 op a texts depth = true then (2003,hs)
 else if R8 op = true∧(a ≤ (i:Int)∨(n:Int) < a) then (2002,hs)
 else if hs.getD i 0 < (W3 op).1 then (2001,hs)
 else a2C (a2I op (a47 op a hs (hs.getD i 0)) i (IntKind.wrap .i64 (hs.getD i 0 + (W3 op).2)))
theorem jmpX_len (op a:Int) (hs:List Int) (h:Int):(a47 op a hs h).2.length = hs.length:=by
 unfold a47
 repeat' split
 all_goals simp [a0e]
theorem nxtX_len (op:Int) (q:Bool × List Int) (i:Nat) (x:Int):(a2I op q i x).2.length = q.2.length:=by
 unfold a2I
 repeat' split
 all_goals simp [a0e]
theorem oneX_len (op a:Int) (n:Nat) (texts depth:Int) (hs:List Int) (i:Nat):(a0z op a n texts depth hs i).2.length = hs.length:=by
 unfold a0z a2C
 repeat' split
 all_goals simp [nxtX_len,jmpX_len]
structure Chk (c hid k:Nat) (v:AV) (texts depth:Int) (hs:List Int) (op a:Int) (S:Sto):Prop where
 kc:S[c]? = some (.cells 0 [v, .int .i64 texts, .int .i64 depth, .ms hid 0 0 hs.length 1] 0)
 kh:S[hid]? = some (.cells 0 (O6 hs) 0)
 kx:S[k]? = some (.cells 0 [.int .i64 op, .int .i64 a] 0)
 n1:c ≠ hid
 n2:k ≠ hid
theorem Chk.set {c hid k:Nat} {v:AV} {texts depth:Int} {hs ks:List Int} {op a:Int} {S:Sto} (h:Chk c hid k v texts depth hs op a S) (hl:ks.length = hs.length):Chk c hid k v texts depth ks op a (S.set hid (.cells 0 (O6 ks) 0)):=by
 have hlt:=(List.getElem?_eq_some_iff.1 h.kh).1
 exact ⟨by rw [List.getElem?_set_ne (Ne.symm h.n1),hl]; exact h.kc,List.getElem?_set_self hlt,by rw [List.getElem?_set_ne (Ne.symm h.n2)]; exact h.kx,h.n1,h.n2⟩
section
variable {c hid k:Nat} {v:AV} {texts depth:Int} {hs:List Int} {op a:Int} {S:Sto} {i:Nat}
theorem one_out (f:Bool) (S:Sto):d8.J3 (.bool f) S = some ⟨.ret (.int .i64 ((if f = true then 0 else 2001:Nat):Int)),none,S⟩:=by
 rw [d8.J3_e]
 cases f <;> rfl
theorem one_next (H:Chk c hid k v texts depth hs op a S) (hi:i + 1 < hs.length) (hib:i ≤ 100000) (h mo need:Int) (f:Bool) :
  d8.I5 (.mp c 0 0) ((i:Nat):Int) k (.int .i64 h) (.int .i64 mo) (.bool f) S = some ⟨.ret (.int .i64 (((a2C (a2I op (f,hs) i (IntKind.wrap .i64 (h + mo)))).1:Nat):Int)),none,S.set hid (.cells 0 (O6 (a2C (a2I op (f,hs) i (IntKind.wrap .i64 (h + mo)))).2) 0)⟩:=by
 have g0:ld false 1 S (.mp k 0 0) = some (.int .i64 op):=O8 H.kx rfl
 have w1:IntKind.wrap .i64 (((i:Nat):Int) + 1) = ((i + 1:Nat):Int):=w64 _ (by omega) (by omega)
 rw [d8.I5_e]
 refine (br g0).trans ?_
 refine (br (aI _)).trans ?_
 by_cases h33:op = 33
 ·refine (bf (by simp [h33])).trans ?_
  rw [one_out]
  simp only [a2I,h33,if_true,a2C]
  cases f <;> simp [R1 H.kh]
 ·refine (bt (by simp [h33])).trans ?_
  refine (br (gB f)).trans ?_
  refine gs.trans ?_
  cases f with
  | false=>
   refine (bf rfl).trans ?_
   rw [one_out]
   simp only [a2I,h33,if_false,a2C,Bool.false_eq_true]
   simp [R1 H.kh]
  | true=>
   refine (bt rfl).trans ?_
   refine (br (aI _)).trans ?_
   refine (br (aI _)).trans ?_
   rw [w1]
   refine (cr (lead_spec _ H.kc H.kh H.n1 hi)).trans ?_
   refine (br (aB _)).trans ?_
   rw [one_out]
   simp only [a2I,h33,if_false,if_true,a2C,a2a]
   split <;> rfl
theorem one_jump (H:Chk c hid k v texts depth hs op a S) (hi:i + 1 < hs.length) (hib:i ≤ 100000) (hj:R8 op = true→(i:Int) < a∧a < (hs.length:Int)) (h mo:Int) (t103:Bool) (ht:t103 = decide (op = 30)∨t103 = decide (op = 31)∧op ≠ 30) :
  d8.M7 (.mp c 0 0) ((i:Nat):Int) k (.int .i64 h) (.int .i64 mo) true (.int .i64 op) (decide (op = 30∨op = 31)) S = some ⟨.ret (.int .i64 (((a2C (a2I op (a47 op a hs h) i (IntKind.wrap .i64 (h + mo)))).1:Nat):Int)),none,S.set hid (.cells 0 (O6 (a2C (a2I op (a47 op a hs h) i (IntKind.wrap .i64 (h + mo)))).2) 0)⟩:=by
 have g1:ld false 1 S (.mp k 0 1) = some (.int .i64 a):=O8 H.kx rfl
 have hlt:=(List.getElem?_eq_some_iff.1 H.kh).1
 have lead:∀ (x:Int),(30 ≤ op∧op ≤ 33)→O1 ap 91 [.mp c 0 0, .int .i64 a, .int .i64 x] S = some (.ret (.bool (a2a hs a.toNat x)),S.set hid (.cells 0 (O6 (Y9 hs a.toNat x)) 0)):=fun x hop=>by
  obtain ⟨j1,j2⟩:=hj (by simp [R8,hop.1,hop.2])
  have e:a = ((a.toNat:Nat):Int):=by omega
  have:=lead_spec (to:=a.toNat) x H.kc H.kh H.n1 (by omega)
  rw [←e] at this
  exact this
 have fin:∀ (x:Int) (hop:30 ≤ op∧op ≤ 33),a47 op a hs h = (a2a hs a.toNat x,Y9 hs a.toNat x)→d8.I5 (.mp c 0 0) ((i:Nat):Int) k (.int .i64 h) (.int .i64 mo) (.bool (a2a hs a.toNat x)) (S.set hid (.cells 0 (O6 (Y9 hs a.toNat x)) 0)) = some ⟨.ret (.int .i64 (((a2C (a2I op (a47 op a hs h) i (IntKind.wrap .i64 (h + mo)))).1:Nat):Int)),none,S.set hid (.cells 0 (O6 (a2C (a2I op (a47 op a hs h) i (IntKind.wrap .i64 (h + mo)))).2) 0)⟩:=fun x hop e=>by
  rw [one_next (H.set (a0e _ _ _)) (by rw [a0e]; exact hi) hib h mo 0,e,List.set_set]
 rw [d8.M7_e]
 by_cases h30:op = 30∨op = 31
 ·refine (bt (O4 h30)).trans ?_
  refine (br g1).trans ?_
  refine (cr (lead h (by omega))).trans ?_
  refine fin h (by omega) ?_
  unfold a47
  rcases h30 with e | e
  ·rw [if_pos e]
  ·rw [if_neg (by omega),if_pos e]
 ·refine (bf (O0 h30)).trans ?_
  refine (br (aI _)).trans ?_
  by_cases h32:op = 32
  ·refine (bt (O4 h32)).trans ?_
   refine (br g1).trans ?_
   refine (br (aI _)).trans ?_
   refine (cr (lead _ (by omega))).trans ?_
   refine fin _ (by omega) ?_
   unfold a47
   rw [if_neg (by omega),if_neg (by omega),if_pos h32]
  ·refine (bf (O0 h32)).trans ?_
   refine (br (aI _)).trans ?_
   by_cases h33:op = 33
   ·refine (bt (O4 h33)).trans ?_
    refine (br g1).trans ?_
    refine (cr (lead h (by omega))).trans ?_
    refine fin h (by omega) ?_
    unfold a47
    rw [if_neg (by omega),if_neg (by omega),if_neg (by omega),if_pos h33]
   ·refine (bf (O0 h33)).trans ?_
    have e:a47 op a hs h = (true,hs):=by
     unfold a47
     rw [if_neg (by omega),if_neg (by omega),if_neg (by omega),if_neg h33]
    rw [one_next H hi hib h mo 0,e]
theorem one_high (H:Chk c hid k v texts depth hs op a S) (hi:i + 1 < hs.length) (hib:i ≤ 100000) (hj:R8 op = true→(i:Int) < a∧a < (hs.length:Int)) (h need mo:Int) :
  d8.G3 (.mp c 0 0) ((i:Nat):Int) k (.int .i64 h) (.int .i64 need) (.int .i64 mo) false S = (if h < need then some ⟨.ret (.int .i64 2001),none,S⟩ else some ⟨.ret (.int .i64 (((a2C (a2I op (a47 op a hs h) i (IntKind.wrap .i64 (h + mo)))).1:Nat):Int)),none,S.set hid (.cells 0 (O6 (a2C (a2I op (a47 op a hs h) i (IntKind.wrap .i64 (h + mo)))).2) 0)⟩):=by
 have g0:ld false 1 S (.mp k 0 0) = some (.int .i64 op):=O8 H.kx rfl
 rw [d8.G3_e]
 refine (bf rfl).trans ?_
 refine (br (aI _)).trans ?_
 refine (br (aI _)).trans ?_
 by_cases hn:h < need
 ·rw [if_pos hn]
  exact bt (O4 hn)
 ·rw [if_neg hn]
  refine (bf (O0 hn)).trans ?_
  refine (br g0).trans ?_
  refine (br (aI _)).trans ?_
  by_cases h30:op = 30
  ·refine (bt (O4 h30)).trans ?_
   have e:decide (op = 30) = decide (op = 30∨op = 31):=by simp [h30]
   rw [e]
   exact one_jump H hi hib hj h mo _ (.inl rfl)
  ·refine (bf (O0 h30)).trans ?_
   refine (br (aI _)).trans ?_
   have e:decide (op = 31) = decide (op = 30∨op = 31):=by simp [h30]
   rw [e]
   exact one_jump H hi hib hj h mo _ (.inl rfl)
theorem one_jplace {code:List (Int × Int)} (hv:a19 code v) (hl:hs.length = code.length + 1) (H:Chk c hid k v texts depth hs op a S) (hi:i < code.length) (hib:i ≤ 100000) (h need mo:Int) (hh:h = hs.getD i 0) (hneed:need = (W3 op).1) (hmo:mo = (W3 op).2) (h0:¬ h < 0) (hform:a2B op a ≠ false) (hname:a38 op a texts depth = false) :
  d8.I6 (.mp c 0 0) ((i:Nat):Int) k (.int .i64 h) (.int .i64 need) (.int .i64 mo) false S = some ⟨.ret (.int .i64 (((a0z op a code.length texts depth hs i).1:Nat):Int)),none,S.set hid (.cells 0 (O6 (a0z op a code.length texts depth hs i).2) 0)⟩:=by
 have g0:ld false 1 S (.mp k 0 0) = some (.int .i64 op):=O8 H.kx rfl
 have g1:ld false 1 S (.mp k 0 1) = some (.int .i64 a):=O8 H.kx rfl
 have gc0:ld false 1 S (.mp c 0 (0 + 0)) = some v:=O8 H.kc rfl
 have f0:fa 0 1 (.mp c 0 0) = some (.mp c 0 (0 + 0)):=rfl
 have hn:O2 (.mp c 0 0) = some (.mp c 0 0):=rfl
 subst hh hneed hmo
 have fin:∀ (b:Bool),b = decide (R8 op = true∧(a ≤ (i:Int)∨((code.length:Nat):Int) < a))→d8.G3 (.mp c 0 0) ((i:Nat):Int) k (.int .i64 (hs.getD i 0)) (.int .i64 (W3 op).1) (.int .i64 (W3 op).2) b S = some ⟨.ret (.int .i64 (((a0z op a code.length texts depth hs i).1:Nat):Int)),none,S.set hid (.cells 0 (O6 (a0z op a code.length texts depth hs i).2) 0)⟩:=by
  intro b hb
  unfold a0z
  rw [if_neg h0,if_neg hform,if_neg (by simp [hname])]
  by_cases hj:R8 op = true∧(a ≤ (i:Int)∨((code.length:Nat):Int) < a)
  ·rw [O4 hj] at hb
   subst hb
   rw [if_pos hj,d8.G3_e]
   rw [R1 H.kh]
   rfl
  ·rw [O0 hj] at hb
   subst hb
   rw [if_neg hj,one_high H (by omega) hib (fun e=>by
    have:¬ (a ≤ (i:Int)∨((code.length:Nat):Int) < a):=fun h=>hj ⟨e,h⟩
    omega)]
   split
   ·rw [R1 H.kh]
    rfl
   ·rfl
 rw [d8.I6_e]
 refine (bf rfl).trans ?_
 refine (br g0).trans ?_
 refine (cr (a25 op S)).trans ?_
 refine (it rfl).trans ?_
 refine (br (gB _)).trans ?_
 refine gs.trans ?_
 cases hj:R8 op with
 | false=>
  refine (bf rfl).trans ?_
  exact fin false (by simp [hj])
 | true=>
  refine (bt rfl).trans ?_
  refine (br g1).trans ?_
  refine (br (aI _)).trans ?_
  by_cases ha:a ≤ (i:Int)
  ·refine (bt (O4 ha)).trans ?_
   exact fin true (by simp [hj,ha])
  ·refine (bf (O0 ha)).trans ?_
   refine (br g1).trans ?_
   refine (br hn).trans ?_
   refine (br f0).trans ?_
   refine (br gc0).trans ?_
   refine (br hv.len).trans ?_
   refine (br (aI _)).trans ?_
   exact fin _ (by simp [hj,ha])
theorem a3c {code:List (Int × Int)} (hv:a19 code v) (hl:hs.length = code.length + 1) (H:Chk c hid k v texts depth hs op a S) (hi:i < code.length) (hib:i ≤ 100000) (h need mo:Int) (hh:h = hs.getD i 0) (hneed:need = (W3 op).1) (hmo:mo = (W3 op).2) (h0:¬ h < 0) (hform:a2B op a ≠ false) (b:Bool) (hb:b = if op = 5∨op = 7 then (decide (a < 0) || decide (texts ≤ a)) else false) :
  d8.J1 (.mp c 0 0) ((i:Nat):Int) k (.int .i64 h) (.int .i64 need) (.int .i64 mo) b S = some ⟨.ret (.int .i64 (((a0z op a code.length texts depth hs i).1:Nat):Int)),none,S.set hid (.cells 0 (O6 (a0z op a code.length texts depth hs i).2) 0)⟩:=by
 have g0:ld false 1 S (.mp k 0 0) = some (.int .i64 op):=O8 H.kx rfl
 have g1:ld false 1 S (.mp k 0 1) = some (.int .i64 a):=O8 H.kx rfl
 have gc2:ld false 1 S (.mp c 0 (0 + 2)) = some (.int .i64 depth):=O8 H.kc rfl
 have f2:fa 2 1 (.mp c 0 0) = some (.mp c 0 (0 + 2)):=rfl
 have hn:O2 (.mp c 0 0) = some (.mp c 0 0):=rfl
 have bad:a38 op a texts depth = true→d8.I6 (.mp c 0 0) ((i:Nat):Int) k (.int .i64 h) (.int .i64 need) (.int .i64 mo) true S = some ⟨.ret (.int .i64 (((a0z op a code.length texts depth hs i).1:Nat):Int)),none,S.set hid (.cells 0 (O6 (a0z op a code.length texts depth hs i).2) 0)⟩:=fun hname=>by
  subst hh
  unfold a0z
  rw [if_neg h0,if_neg hform,if_pos hname,d8.I6_e,R1 H.kh]
  rfl
 have fin:∀ q:Bool,q = a38 op a texts depth→d8.I6 (.mp c 0 0) ((i:Nat):Int) k (.int .i64 h) (.int .i64 need) (.int .i64 mo) q S = some ⟨.ret (.int .i64 (((a0z op a code.length texts depth hs i).1:Nat):Int)),none,S.set hid (.cells 0 (O6 (a0z op a code.length texts depth hs i).2) 0)⟩:=fun q hq=>by
  cases q with
  | true=>exact bad hq.symm
  | false=>exact one_jplace hv hl H hi hib h need mo hh hneed hmo h0 hform hq.symm
 rw [d8.J1_e]
 cases b with
 | true=>
  refine (bt rfl).trans ?_
  refine fin true ?_
  unfold a38
  by_cases h5:op = 5
  ·rw [if_pos h5]; rw [if_pos (.inl h5)] at hb; exact hb
  ·rw [if_neg h5]
   by_cases h7:op = 7
   ·rw [if_pos h7]; rw [if_pos (.inr h7)] at hb; exact hb
   ·rw [if_neg (by omega)] at hb; cases hb
 | false=>
  refine (bf rfl).trans ?_
  refine (br g0).trans ?_
  refine (br (aI _)).trans ?_
  by_cases h6:op = 6
  ·refine (bt (O4 h6)).trans ?_
   refine (br g1).trans ?_
   refine (br (aI _)).trans ?_
   have e:a38 op a texts depth = (decide (a < 0) || decide (depth ≤ a)):=by
    unfold a38
    rw [if_neg (by omega),if_neg (by omega),if_pos h6]
   by_cases ha:a < 0
   ·refine (bt (O4 ha)).trans ?_
    exact fin true (by rw [e]; simp [ha])
   ·refine (bf (O0 ha)).trans ?_
    refine (br g1).trans ?_
    refine (br hn).trans ?_
    refine (br f2).trans ?_
    refine (br gc2).trans ?_
    refine (br (aI _)).trans ?_
    refine (br (aI _)).trans ?_
    exact fin _ (by rw [e]; simp [ha])
  ·refine (bf (O0 h6)).trans ?_
   refine fin false ?_
   unfold a38
   by_cases h5:op = 5
   ·rw [if_pos h5]; rw [if_pos (.inl h5)] at hb; exact hb
   ·rw [if_neg h5]
    by_cases h7:op = 7
    ·rw [if_pos h7]; rw [if_pos (.inr h7)] at hb; exact hb
    ·rw [if_neg h7,if_neg h6]
theorem one_spec {code:List (Int × Int)} {st:Sto} (hv:a19 code v) (hl:hs.length = code.length + 1) (hc:st[c]? = some (.cells 0 [v, .int .i64 texts, .int .i64 depth, .ms hid 0 0 hs.length 1] 0)) (hh:st[hid]? = some (.cells 0 (O6 hs) 0)) (hne:c ≠ hid) (hi:i < code.length) (hib:i ≤ 100000) (hx:code[i]? = some (op,a)) :
  O1 ap 57 [.mp c 0 0, .int .i64 ((i:Nat):Int)] st = some (.ret (.int .i64 (((a0z op a code.length texts depth hs i).1:Nat):Int)),st.set hid (.cells 0 (O6 (a0z op a code.length texts depth hs i).2) 0)):=by
 have hcl:=(List.getElem?_eq_some_iff.1 hc).1
 have hhl:=(List.getElem?_eq_some_iff.1 hh).1
 have hn:O2 (.mp c 0 0) = some (.mp c 0 0):=rfl
 have f0:fa 0 1 (.mp c 0 0) = some (.mp c 0 (0 + 0)):=rfl
 have f1:fa 1 1 (.mp c 0 0) = some (.mp c 0 (0 + 1)):=rfl
 have f3:fa 3 1 (.mp c 0 0) = some (.mp c 0 (0 + 3)):=rfl
 have hia:=a1v hv hx
 have hih:ia 1 (.ms hid 0 0 hs.length 1) (.int .i64 ((i:Nat):Int)) = some (.mp hid 0 i):=by
  simp only [ia,if_true,P9 (show i < hs.length by omega),Option.bind_some,Nat.zero_add,Nat.mul_one]
 have gd:(O6 hs)[i]? = some (.int .i64 (hs.getD i 0)):=by
  have:i < hs.length:=by omega
  simp [O6,List.getElem?_eq_getElem this,List.getD_eq_getElem?_getD]
 have rd:∀ S:Sto,(∀ j o,st[j]? = some o→S[j]? = some o)→ld false 1 S (.mp c 0 (0 + 0)) = some v∧ld false 1 S (.mp c 0 (0 + 1)) = some (.int .i64 texts)∧ld false 1 S (.mp c 0 (0 + 3)) = some (.ms hid 0 0 hs.length 1)∧ld false 1 S (.mp hid 0 i) = some (.int .i64 (hs.getD i 0)):=fun S hS=>
  ⟨O8 (hS _ _ hc) rfl,O8 (hS _ _ hc) rfl,O8 (hS _ _ hc) rfl,O8 (n:=i) (hS _ _ hh) gd⟩
 obtain ⟨r0,r1,r3,r4⟩:=rd st fun _ _ h=>h
 obtain ⟨Z,hZ⟩:∃ Z,Z = st ++ [Ob.cells 0 [.int .i64 0, .int .i64 0] 0]:=⟨_,rfl⟩
 obtain ⟨z0,z1,z3,z4⟩:=rd Z fun _ _ h=>by rw [hZ]; exact P8 h
 obtain ⟨S,hS⟩:∃ S,S = st ++ [Ob.cells 0 [.int .i64 op, .int .i64 a] 0]:=⟨_,rfl⟩
 obtain ⟨s0,s1,s3,s4⟩:=rd S fun _ _ h=>by rw [hS]; exact P8 h
 have hsto:sto 2 Z (.mp st.length 0 0) (.agg [.int .i64 op, .int .i64 a]) = some S:=by rw [hZ,hS]; exact a3P (cs:=[.int .i64 0, .int .i64 0]) (cs':=[.int .i64 op, .int .i64 a]) rfl rfl rfl
 have H:Chk c hid st.length v texts depth hs op a S:=⟨by rw [hS]; exact P8 hc,by rw [hS]; exact P8 hh,by rw [hS]; simp,hne,by omega⟩
 have g0:ld false 1 S (.mp st.length 0 0) = some (.int .i64 op):=O8 H.kx rfl
 have g1:ld false 1 S (.mp st.length 0 1) = some (.int .i64 a):=O8 H.kx rfl
 have g2:ld true 2 S (.mp st.length 0 0) = some (.agg [.int .i64 op, .int .i64 a]):=Z7 H.kx rfl
 suffices hb:d8.b (.mp c 0 0) ((i:Nat):Int) st = some ⟨.ret (.int .i64 (((a0z op a code.length texts depth hs i).1:Nat):Int)),none,S.set hid (.cells 0 (O6 (a0z op a code.length texts depth hs i).2) 0)⟩ by
  rw [d8.call]
  refine ret_set (l:=[Ob.cells 0 [.int .i64 op, .int .i64 a] 0]) ?_ rfl rfl ?_
  ·rw [hb,hS,List.set_append_left _ _ hhl]
  ·have:olds st.length (O6 (a0z op a code.length texts depth hs i).2) = true:=by
    rw [W1]
    intro y hy
    simp only [O6,List.mem_map] at hy
    obtain ⟨z,_,rfl⟩:=hy
    rfl
   simpa only [Ob.old] using this
 have l2':∀ S:Sto,ld true 2 S (.ip [.int .i64 op, .int .i64 a]) = some (.agg [.int .i64 op, .int .i64 a]):=fun _=>rfl
 rw [d8.b_eq,←hZ]
 refine (br hn).trans ?_
 refine (br f0).trans ?_
 refine (br r0).trans ?_
 refine (br hia).trans ?_
 refine (br (l2' st)).trans ?_
 refine (br hn).trans ?_
 refine (br f3).trans ?_
 refine (br r3).trans ?_
 refine (br hih).trans ?_
 refine (br r4).trans ?_
 refine (br z4).trans ?_
 refine (it rfl).trans ?_
 refine (br z3).trans ?_
 refine (it rfl).trans ?_
 refine (br (l2' Z)).trans ?_
 refine (it rfl).trans ?_
 refine (br z0).trans ?_
 refine (it rfl).trans ?_
 refine (br hsto).trans ?_
 refine (br s4).trans ?_
 refine (it rfl).trans ?_
 refine (br s3).trans ?_
 refine (it rfl).trans ?_
 refine (br g0).trans ?_
 refine (cr (wants_spec op S)).trans ?_
 refine (br (x0 _ _)).trans ?_
 refine (br (x1 _ _ _)).trans ?_
 refine (br (aI _)).trans ?_
 by_cases h0:hs.getD i 0 < 0
 ·refine (bt (O4 h0)).trans ?_
  unfold a0z
  rw [if_pos h0,R1 H.kh]
  rfl
 ·refine (bf (O0 h0)).trans ?_
  refine (br g2).trans ?_
  refine (cr (codeForm_spec op a S)).trans ?_
  refine (br (aB _)).trans ?_
  cases hf:a2B op a with
  | false=>
   refine (bt rfl).trans ?_
   unfold a0z
   rw [if_neg h0,if_pos hf,R1 H.kh]
   rfl
  | true=>
   have hform:a2B op a ≠ false:=by rw [hf]; simp
   refine (bf rfl).trans ?_
   refine (br g0).trans ?_
   refine (br (aI _)).trans ?_
   by_cases h5:op = 5
   ·refine (bt (O4 h5)).trans ?_
    refine (br g1).trans ?_
    refine (br (aI _)).trans ?_
    by_cases ha:a < 0
    ·refine (bt (O4 ha)).trans ?_
     exact a3c hv hl H hi hib _ _ _ rfl rfl rfl h0 hform true (by rw [if_pos (.inl h5)]; simp [ha])
    ·refine (bf (O0 ha)).trans ?_
     refine (br g1).trans ?_
     refine (br hn).trans ?_
     refine (br f1).trans ?_
     refine (br s1).trans ?_
     refine (br (aI _)).trans ?_
     refine (br (aI _)).trans ?_
     exact a3c hv hl H hi hib _ _ _ rfl rfl rfl h0 hform _ (by rw [if_pos (.inl h5)]; simp [ha])
   ·refine (bf (O0 h5)).trans ?_
    refine (br g0).trans ?_
    refine (br (aI _)).trans ?_
    by_cases h7:op = 7
    ·refine (bt (O4 h7)).trans ?_
     refine (br g1).trans ?_
     refine (br (aI _)).trans ?_
     by_cases ha:a < 0
     ·refine (bt (O4 ha)).trans ?_
      exact a3c hv hl H hi hib _ _ _ rfl rfl rfl h0 hform true (by rw [if_pos (.inr h7)]; simp [ha])
     ·refine (bf (O0 ha)).trans ?_
      refine (br g1).trans ?_
      refine (br hn).trans ?_
      refine (br f1).trans ?_
      refine (br s1).trans ?_
      refine (br (aI _)).trans ?_
      refine (br (aI _)).trans ?_
      exact a3c hv hl H hi hib _ _ _ rfl rfl rfl h0 hform _ (by rw [if_pos (.inr h7)]; simp [ha])
    ·refine (bf (O0 h7)).trans ?_
     exact a3c hv hl H hi hib _ _ _ rfl rfl rfl h0 hform false (by rw [if_neg (by omega)])
def ckGo (code:List (Int × Int)) (texts depth:Int):Nat→Nat→List Int→Nat
 | 0,i,hs=>if hs.getD i 0 = 1 then 0 else 2001
 | m + 1,i,hs=>if (a0z (code.getD i (0,0)).1 (code.getD i (0,0)).2 code.length texts depth hs i).1 = 0 then ckGo code texts depth m (i + 1) (a0z (code.getD i (0,0)).1 (code.getD i (0,0)).2 code.length texts depth hs i).2 else (a0z (code.getD i (0,0)).1 (code.getD i (0,0)).2 code.length texts depth hs i).1
def hs0 (n:Nat):List Int:=0 :: List.replicate n (-1)
def ckC (code:List (Int × Int)) (texts depth:Int):Nat:=if 8192 < code.length then 2004 else ckGo code texts depth code.length 0 (hs0 code.length)
theorem ck_loop {code:List (Int × Int)} (hv:a19 code v) (hcl:code.length ≤ 8192) (n:Nat) (hne:c ≠ hid) (hcn:n ≤ c) (hhn:n ≤ hid):∀ (m i:Nat) (hs:List Int) (S:Sto),i + m = code.length→hs.length = code.length + 1→S[c]? = some (.cells 0 [v, .int .i64 texts, .int .i64 depth, .ms hid 0 0 hs.length 1] 0)→S[hid]? = some (.cells 0 (O6 hs) 0) →
  ∃ S',y6.F9 v c ((code.length:Nat):Int) ((i:Nat):Int) S = some ⟨.ret (.int .i64 ((ckGo code texts depth m i hs:Nat):Int)),none,S'⟩∧O5 n S S':=by
 intro m
 induction m with
 | zero=>
  intro i hs S him hl hc hh
  have g3:ld false 1 S (.mp c 0 3) = some (.ms hid 0 0 hs.length 1):=O8 hc rfl
  have hih:ia 1 (.ms hid 0 0 hs.length 1) (.int .i64 ((code.length:Nat):Int)) = some (.mp hid 0 code.length):=by
   simp only [ia,if_true,P9 (show code.length < hs.length by omega),Option.bind_some,Nat.zero_add,Nat.mul_one]
  have gd:(O6 hs)[code.length]? = some (.int .i64 (hs.getD code.length 0)):=by
   have:code.length < hs.length:=by omega
   simp [O6,List.getElem?_eq_getElem this,List.getD_eq_getElem?_getD]
  have r4:ld false 1 S (.mp hid 0 code.length) = some (.int .i64 (hs.getD code.length 0)):=O8 (n:=code.length) hh gd
  have hi:i = code.length:=by omega
  subst hi
  refine ⟨S,?_,O5.refl _ _⟩
  rw [y6.F9_e]
  refine (bf (O0 (by omega))).trans ?_
  refine (br g3).trans ?_
  refine (br hv.len).trans ?_
  refine (br hih).trans ?_
  refine (br r4).trans ?_
  refine (br (aI _)).trans ?_
  simp only [ckGo]
  by_cases h1:hs.getD code.length 0 = 1
  ·rw [if_pos h1]
   exact bf (by simp only [h1,decide_true,Bool.not_true])
  ·rw [if_neg h1]
   exact bt (by simp only [h1,decide_false,Bool.not_false])
 | succ m ih=>
  intro i hs S him hl hc hh
  have hi:i < code.length:=by omega
  obtain ⟨x,hx⟩:∃ x,code[i]? = some x:=⟨_,List.getElem?_eq_getElem hi⟩
  obtain ⟨op,a⟩:=x
  have hgd:code.getD i (0,0) = (op,a):=by rw [List.getD_eq_getElem?_getD,hx]; rfl
  have h1:=one_spec hv hl hc hh hne hi (by omega) hx
  have hlt:=(List.getElem?_eq_some_iff.1 hh).1
  have hk:O5 n S (S.set hid (.cells 0 (O6 (a0z op a code.length texts depth hs i).2) 0)):=O5.set hhn
  have w1:IntKind.wrap .i64 (((i:Nat):Int) + 1) = ((i + 1:Nat):Int):=w64 _ (by omega) (by omega)
  simp only [ckGo,hgd]
  by_cases he:(a0z op a code.length texts depth hs i).1 = 0
  ·obtain ⟨S',k1,k2⟩:=ih (i + 1) (a0z op a code.length texts depth hs i).2 (S.set hid (.cells 0 (O6 (a0z op a code.length texts depth hs i).2) 0)) (by omega) (by rw [oneX_len]; exact hl) (by rw [List.getElem?_set_ne (Ne.symm hne),oneX_len]; exact hc) (List.getElem?_set_self hlt)
   refine ⟨S',?_,hk.trans k2⟩
   rw [if_pos he,y6.F9_e]
   refine (bt (O4 (by omega))).trans ?_
   refine (cr h1).trans ?_
   refine (br (aI _)).trans ?_
   refine (bf (by rw [he]; rfl)).trans ?_
   rw [w1]
   exact k1
  ·refine ⟨_,?_,hk⟩
   rw [if_neg he,y6.F9_e]
   refine (bt (O4 (by omega))).trans ?_
   refine (cr h1).trans ?_
   refine (br (aI _)).trans ?_
   exact bt (by simp; omega)
theorem reps_int (n:Nat):a2k n [AV.int .i64 0] = O6 (List.replicate n 0):=by
 induction n with
 | zero=>rfl
 | succ n ih=>simp only [a2k,ih,O6,List.replicate_succ,List.map_cons]; rfl
theorem ck_fill {code:List (Int × Int)} (hcl:code.length ≤ 8192) (n:Nat) (hne:c ≠ hid) (hhn:n ≤ hid):∀ (m i:Nat) (S:Sto),i + m = code.length + 1→S[c]? = some (.cells 0 [v, .int .i64 texts, .int .i64 depth, .ms hid 0 0 (code.length + 1) 1] 0)→S[hid]? = some (.cells 0 (O6 (List.replicate i (-1) ++ List.replicate m 0)) 0) →
  ∃ S',y6.F1 v c ((code.length + 1:Nat):Int) ((i:Nat):Int) S = y6.F1 v c ((code.length + 1:Nat):Int) ((code.length + 1:Nat):Int) S'∧O5 n S S'∧S'[c]? = S[c]?∧S'[hid]? = some (.cells 0 (O6 (List.replicate (code.length + 1) (-1))) 0):=by
 intro m
 induction m with
 | zero=>
  intro i S him hc hh
  have hi:i = code.length + 1:=by omega
  subst hi
  exact ⟨S,rfl,O5.refl _ _,rfl,by rw [hh]; simp⟩
 | succ m ih=>
  intro i S him hc hh
  have g3:ld false 1 S (.mp c 0 3) = some (.ms hid 0 0 (code.length + 1) 1):=O8 hc rfl
  have hih:ia 1 (.ms hid 0 0 (code.length + 1) 1) (.int .i64 ((i:Nat):Int)) = some (.mp hid 0 i):=by
   simp only [ia,if_true,P9 (show i < code.length + 1 by omega),Option.bind_some,Nat.zero_add,Nat.mul_one]
  have hlt:=(List.getElem?_eq_some_iff.1 hh).1
  have w1:IntKind.wrap .i64 (((i:Nat):Int) + 1) = ((i + 1:Nat):Int):=w64 _ (by omega) (by omega)
  have hset:(O6 (List.replicate i (-1) ++ List.replicate (m + 1) 0)).set i (AV.int .i64 (-1)) = O6 (List.replicate (i + 1) (-1) ++ List.replicate m 0):=by
   simp only [O6,List.map_append,List.map_replicate]
   rw [List.set_append_right _ _ (by simp),List.length_replicate,Nat.sub_self,List.replicate_succ,List.set_cons_zero,List.replicate_succ',List.append_assoc]
   rfl
  have hst:sto 1 S (.mp hid 0 i) (.int .i64 (-1)) = some (S.set hid (.cells 0 (O6 (List.replicate (i + 1) (-1) ++ List.replicate m 0)) 0)):=by
   rw [U8 hh (by simp [O6]) rfl rfl,hset]
  obtain ⟨S',k1,k2,k3,k4⟩:=ih (i + 1) (S.set hid (.cells 0 (O6 (List.replicate (i + 1) (-1) ++ List.replicate m 0)) 0)) (by omega) (by rw [List.getElem?_set_ne (Ne.symm hne)]; exact hc) (List.getElem?_set_self hlt)
  refine ⟨S',?_,(O5.set hhn).trans k2,by rw [k3,List.getElem?_set_ne (Ne.symm hne)],k4⟩
  rw [←k1,y6.F1_e]
  refine (bt (O4 (by omega))).trans ?_
  refine (br g3).trans ?_
  refine (br hih).trans ?_
  refine (br hst).trans ?_
  rw [w1]
theorem a1c {code:List (Int × Int)} (hv:a19 code v) (hlen:code.length ≤ 100000000) (texts depth:Int) (st:Sto) :
  O1 ap 31 [v, .int .i64 texts, .int .i64 depth] st = some (.ret (.int .i64 ((ckC code texts depth:Nat):Int)),st):=by
 rw [y6.call]
 suffices hb:∃ S',y6.b v texts depth st = some ⟨.ret (.int .i64 ((ckC code texts depth:Nat):Int)),none,S'⟩∧O5 st.length st S' by
  obtain ⟨S',k1,k2⟩:=hb
  exact O7 k1 rfl rfl k2
 rw [y6.b_eq]
 unfold ckC
 by_cases hbig:8192 < code.length
 ·rw [if_pos hbig]
  refine ⟨st,?_,O5.refl _ _⟩
  refine (br hv.len).trans ?_
  exact bt (O4 (by omega))
 ·rw [if_neg hbig]
  have w1:IntKind.wrap .i64 (((code.length:Nat):Int) + 1) = ((code.length + 1:Nat):Int):=w64 _ (by omega) (by omega)
  have hmk:mkS 1 8 [AV.int .i64 0] (.int .i64 ((code.length + 1:Nat):Int)) (.int .i64 ((code.length + 1:Nat):Int)) st = some (.ms st.length 0 0 (code.length + 1) 1,st ++ [.cells 0 (O6 (List.replicate (code.length + 1) 0)) 0]):=by
   simp only [mkS]
   rw [if_pos (by omega),reps_int]
   simp
  have hag:(X3 (O9 (fun i=>([(0,1),(1,1),(2,1),(3,1)]:List (Nat × Nat))[i]?) [.nils, .int .i64 0, .int .i64 0, .nils] [(0,v),(1,(.int .i64 texts)),(2,(.int .i64 depth)),(3, .ms st.length 0 0 (code.length + 1) 1)])) = some (.agg [v, .int .i64 texts, .int .i64 depth, .ms st.length 0 0 (code.length + 1) 1]):=by
   rcases hv with ⟨rfl,rfl⟩ | ⟨row,tok,rfl⟩ <;> rfl
  have hall:(AV.cells (.agg [v, .int .i64 texts, .int .i64 depth, .ms st.length 0 0 (code.length + 1) 1])).all AV.isCell = true:=by
   show ([v,AV.int .i64 texts,AV.int .i64 depth,AV.ms st.length 0 0 (code.length + 1) 1]).all AV.isCell = true
   simp only [List.all_cons,hv.cell.1,List.all_nil,Bool.and_true]
   rfl
  obtain ⟨S,hS⟩:∃ S,S = (st ++ [Ob.cells 0 (O6 (List.replicate (code.length + 1) 0)) 0]) ++ [Ob.cells 0 [v, .int .i64 texts, .int .i64 depth, .ms st.length 0 0 (code.length + 1) 1] 0]:=⟨_,rfl⟩
  have e1:(st ++ [Ob.cells 0 (O6 (List.replicate (code.length + 1) 0)) 0]).length = st.length + 1:=by simp
  have hc:S[st.length + 1]? = some (.cells 0 [v, .int .i64 texts, .int .i64 depth, .ms st.length 0 0 (code.length + 1) 1] 0):=by rw [hS,←e1]; simp
  have hh:S[st.length]? = some (.cells 0 (O6 (List.replicate 0 (-1) ++ List.replicate (code.length + 1) 0)) 0):=by rw [hS]; simp
  have hk:O5 st.length st S:=by rw [hS,List.append_assoc]; exact O5.app (Nat.le_refl _)
  have g3:ld false 1 S (.mp (st.length + 1) 0 3) = some (.ms st.length 0 0 (code.length + 1) 1):=O8 hc rfl
  obtain ⟨S1,k1,k2,k3,k4⟩:=ck_fill (v:=v) (texts:=texts) (depth:=depth) (code:=code) (by omega) st.length (c:=st.length + 1) (hid:=st.length) (by omega) (Nat.le_refl _) (code.length + 1) 0 S (by omega) hc hh
  have hlt:=(List.getElem?_eq_some_iff.1 k4).1
  have hc1:S1[st.length + 1]? = some (.cells 0 [v, .int .i64 texts, .int .i64 depth, .ms st.length 0 0 (code.length + 1) 1] 0):=k3.trans hc
  have q3:ld false 1 S1 (.mp (st.length + 1) 0 3) = some (.ms st.length 0 0 (code.length + 1) 1):=O8 hc1 rfl
  have hz:ia 1 (.ms st.length 0 0 (code.length + 1) 1) (.int .i64 0) = some (.mp st.length 0 0):=by
   have:=P9 (show 0 < code.length + 1 by omega)
   simp only [ia,if_true]
   rw [show (0:Int) = ((0:Nat):Int) from rfl,this]
   rfl
  have hset:(O6 (List.replicate (code.length + 1) (-1))).set 0 (AV.int .i64 0) = O6 (hs0 code.length):=rfl
  have hst:sto 1 S1 (.mp st.length 0 0) (.int .i64 0) = some (S1.set st.length (.cells 0 (O6 (hs0 code.length)) 0)):=by
   rw [U8 k4 (by simp [O6]) rfl rfl,hset]
  have hl0:(hs0 code.length).length = code.length + 1:=by simp [hs0]
  obtain ⟨S2,m1,m2⟩:=ck_loop (texts:=texts) (depth:=depth) (c:=st.length + 1) (hid:=st.length) hv (by omega) st.length (by omega) (by omega) (Nat.le_refl _) code.length 0 (hs0 code.length) (S1.set st.length (.cells 0 (O6 (hs0 code.length)) 0)) (by omega) hl0 (by rw [List.getElem?_set_ne (by omega),hl0]; exact hc1) (List.getElem?_set_self hlt)
  refine ⟨S2,?_,(hk.trans k2).trans ((O5.set (Nat.le_refl _)).trans m2)⟩
  refine (br hv.len).trans ?_
  refine (bf (O0 (by omega))).trans ?_
  refine (br hv.len).trans ?_
  rw [w1]
  refine (br hmk).trans ?_
  refine (br hag).trans ?_
  refine (it hall).trans ?_
  have ec:AV.cells (.agg [v, .int .i64 texts, .int .i64 depth, .ms st.length 0 0 (code.length + 1) 1]) = [v, .int .i64 texts, .int .i64 depth, .ms st.length 0 0 (code.length + 1) 1]:=rfl
  simp only [ec,e1]
  rw [←hS]
  refine (br g3).trans ?_
  refine (br (show P3 (.ms st.length 0 0 (code.length + 1) 1) = some (code.length + 1) from rfl)).trans ?_
  refine k1.trans ?_
  rw [y6.F1_e]
  refine (bf (O0 (by omega))).trans ?_
  refine (br q3).trans ?_
  refine (br hz).trans ?_
  refine (br hst).trans ?_
  refine (br hv.len).trans ?_
  exact m1
end
end Go.Proofs.YtcgepgahgihojaaGreatDoor
namespace Go.Proofs.YtcgepgahgihojaaGreatDoor
open Go.St Go.Lib
set_option linter.unusedVariables false
set_option linter.unusedSimpArgs false
def BufT (es n:Nat) (st:Sto) (x:AV) (cells:List AV) (len:Nat):Prop:=
 (x = .nils∧cells = []∧len = 0)∨∃ i g,n ≤ i∧x = .is cells len (.tip i g es)∧st[i]? = some (.tip g)∧cells.length = len * es
theorem a1G {es bytes n:Nat} {st:Sto} {x:AV} {acc new:List AV} {len k:Nat} {str:Bool} {y:AV} (h:BufT es n st x acc len) (hn:n ≤ st.length) (hy:T6 str es st y = some (new,k)) (h0:0 < k) (hnew:new.length = k * es) (hr:room bytes (len + k) = true) :
  ∃ x' st',X6 false str es bytes x y st = some (x',st')∧BufT es n st' x' (acc ++ new) (len + k)∧O5 n st st'∧st.length ≤ st'.length:=by
 unfold X6
 simp only [hy,Option.bind_some]
 have hk:¬ k = 0:=by omega
 rcases h with ⟨rfl,rfl,rfl⟩ | ⟨i,g,hi,rfl,hst,hl⟩
 ·rw [Nat.zero_add] at *
  simp only [hk,if_false,hr,if_true,Bool.false_eq_true,List.nil_append]
  exact ⟨_,_,rfl, .inr ⟨st.length,0,hn,rfl,by simp,by rw [hnew]⟩,O5.app hn,by simp⟩
 ·simp only [hl,true_and,hr,if_true,hst]
  refine ⟨_,_,rfl, .inr ⟨i,g + 1,hi,rfl,?_,by rw [List.length_append,hl,hnew,Nat.add_mul]⟩,O5.set hi,by simp⟩
  rw [List.getElem?_set_self (List.getElem?_eq_some_iff.1 hst).1]
theorem a4B {st st':Sto} (hk:O5 st.length st st'):st'.take st.length = st:=by
 apply List.ext_getElem?
 intro i
 rw [List.getElem?_take]
 split
 ·rename_i hi; exact hk.at_ i hi
 ·rename_i hi; rw [List.getElem?_eq_none (by omega)]
theorem gc_strip {x:AV} {st st':Sto} (ho:(x.strip st.length).old st.length = true) (hk:O5 st.length st st'):gc st (.ret x,st') = (.ret (x.strip st.length),st):=by
 unfold gc
 rw [if_pos ⟨ho,hk.len,fun i hi => .inl (hk.at_ i hi)⟩]
 simp only [Out.map,a4B hk]
theorem olds_icells (n:Nat) (l:List (Int × Int)):olds n (Q5 l) = true:=by
 induction l with
 | nil=>rfl
 | cons x r ih=>simp only [Q5,olds,AV.old,ih,Bool.and_self]
theorem strips_icells (n:Nat) (l:List (Int × Int)):strips n (Q5 l) = Q5 l:=by
 induction l with
 | nil=>rfl
 | cons x r ih=>simp only [Q5,strips,AV.strip,ih]
theorem buf_ret {l:List (Int × Int)} {x:AV} {st st':Sto} {b:Option Res} (hb:b = some ⟨.ret x,none,st'⟩) (h:BufT 2 st.length st' x (Q5 l) l.length) (hk:O5 st.length st st') :
  ∃ v,(b.bind fun r=>some (gc st (r.out,r.st))) = some (.ret v,st)∧a19 l v:=by
 rw [hb]
 simp only [Option.bind_some]
 rcases h with ⟨rfl,h1,h2⟩ | ⟨i,g,hi,rfl,_,_⟩
 ·obtain rfl:=List.eq_nil_of_length_eq_zero h2
  exact ⟨.nils,by rw [gc_strip rfl hk]; rfl, .inl ⟨rfl,rfl⟩⟩
 ·have hi2:¬ i < st.length:=by omega
  have hs:(AV.is (Q5 l) l.length (.tip i g 2)).strip st.length = .is (Q5 l) l.length .no:=by
   simp only [AV.strip,strips_icells,Tok.strip,hi2,if_false]
  refine ⟨.is (Q5 l) l.length .no,?_, .inr ⟨[], .no,by simp⟩⟩
  rw [gc_strip (by rw [hs]; simp only [AV.old,olds_icells,Tok.old,Bool.and_self]) hk,hs]
theorem push2 {n len:Nat} {st:Sto} {t:AV} {pre:List (Int × Int)} {x m:Int} (h:BufT 2 n st t (Q5 pre) len) (hl:len = pre.length) (hn:n ≤ st.length) (hb:pre.length ≤ 100000000) :
  ∃ t' st',X6 false false 2 16 t (.is [.int .i64 x, .int .i64 m] 1 .full) st = some (t',st')∧BufT 2 n st' t' (Q5 (pre ++ [(x,m)])) (pre ++ [(x,m)]).length∧O5 n st st'∧st.length ≤ st'.length:=by
 subst hl
 have ht:T6 false 2 st (.is [.int .i64 x, .int .i64 m] 1 .full) = some ([.int .i64 x, .int .i64 m],1):=rfl
 have hr:room 16 (pre.length + 1) = true:=by simp [room]; omega
 obtain ⟨t',st',a,b,c,d⟩:=a1G h hn ht (by omega) rfl hr
 refine ⟨t',st',a,?_,c,d⟩
 rw [a24,List.length_append]
 exact b
def isRowB:AV→Bool
 | .nils=>true
 | .is _ _ _=>true
 | _=>false
theorem T8 {v:AV} (h:isRowB v = true):v.cells = [v]:=by cases v <;> first | rfl | cases h
def ElV (w n:Nat) (f:Nat→List AV→Prop) (v:AV):Prop:=P3 v = some n∧v.isCell = true∧isRowB v = true∧∀ i,i < n→∃ cs,ia w v (.int .i64 ((i:Nat):Int)) = some (.ip cs)∧f i cs
def TxV (l:List ByteArray) (v:AV):Prop:=ElV 1 l.length (fun i cs=>cs = [.str (l.getD i ⟨#[]⟩)]) v
def W4 (l:List Int) (v:AV):Prop:=ElV 1 l.length (fun i cs=>cs = [.int .i64 (l.getD i 0)]) v
def CdV (l:List (List (Int × Int))) (v:AV):Prop:=ElV 1 l.length (fun i cs=>∃ w,cs = [w]∧a19 (l.getD i []) w) v
structure OpA where
 k:Int
 a:Int
 b:Int
 c:Int
 l:List Int
 deriving Inhabited
structure BlA where
 depth:Int
 ops:List OpA
 upd:List Int
 deriving Inhabited
structure PrA where
 texts:List ByteArray
 codes:List (List (Int × Int))
 statics:Fo
 blocks:List BlA
def oc (o:OpA) (lv:AV):List AV:=[.int .i64 o.k, .int .i64 o.a, .int .i64 o.b, .int .i64 o.c,lv]
def OpC (o:OpA) (cs:List AV):Prop:=∃ lv,cs = oc o lv∧W4 o.l lv
def a2U (l:List OpA) (v:AV):Prop:=ElV 5 l.length (fun i cs=>OpC (l.getD i default) cs) v
def BlC (b:BlA) (cs:List AV):Prop:=∃ ov uv,cs = [.int .i64 b.depth,ov,uv]∧a2U b.ops ov∧W4 b.upd uv
def Ptr (P:Nat) (S:Sto) (q:AV) (cs:List AV):Prop:=q = .ip cs∨∃ id g off all fz,id < P∧q = .mp id g off∧S[id]? = some (.cells g all fz)∧∀ (k:Nat) (c:AV),cs[k]? = some c→all[off + k]? = some c
def BlV (P:Nat) (S:Sto) (l:List BlA) (v:AV):Prop:=P3 v = some l.length∧v.isCell = true∧v.cells = [v]∧∀ i,i < l.length→∃ q cs,ia 3 v (.int .i64 ((i:Nat):Int)) = some q∧q.isCell = true∧q.cells = [q]∧Ptr P S q cs∧BlC (l.getD i default) cs
theorem Ptr.mono {P:Nat} {S S':Sto} {q:AV} {cs:List AV} (h:Ptr P S q cs) (k:O5 P S S'):Ptr P S' q cs:=by
 rcases h with h | ⟨id,g,off,all,fz,h1,h2,h3,h4⟩
 ·exact .inl h
 ·exact .inr ⟨id,g,off,all,fz,h1,h2,by rw [k.at_ id h1]; exact h3,h4⟩
theorem BlV.mono {P:Nat} {S S':Sto} {l:List BlA} {v:AV} (h:BlV P S l v) (k:O5 P S S'):BlV P S' l v:=by
 obtain ⟨h1,h2,h3,h4⟩:=h
 refine ⟨h1,h2,h3,fun i hi=>?_⟩
 obtain ⟨q,cs,a,b,c,d,e⟩:=h4 i hi
 exact ⟨q,cs,a,b,c,d.mono k,e⟩
section
variable {R:Type}
theorem rdM {B g fz k:Nat} {S:Sto} {cs:List AV} {c:AV} (h:S[B]? = some (.cells g cs fz)) (hk:cs[k]? = some c) {F:AV→AV→Option R}:((O2 (.mp B g 0)).bind fun v1=>(fa k 1 v1).bind fun v2=>(ld false 1 S v2).bind fun v3=>F v2 v3) = F (.mp B g (0 + k)) c:=by
 have hn:O2 (.mp B g 0) = some (.mp B g 0):=rfl
 have hf:fa k 1 (.mp B g 0) = some (.mp B g (0 + k)):=rfl
 rw [hn,Option.bind_some,hf,Option.bind_some,O8 (n:=0 + k) h (by rw [Nat.zero_add]; exact hk),Option.bind_some]
theorem rdI {B g fz k j w:Nat} {S:Sto} {cs:List AV} {c:AV} (h:S[B]? = some (.cells g cs fz)) (hk:cs[j + k]? = some c) {F:AV→AV→Option R}:((O2 (.mp B g 0)).bind fun v0=>(fa j w v0).bind fun v1=>(fa k 1 v1).bind fun v2=>(ld false 1 S v2).bind fun v3=>F v2 v3) = F (.mp B g (0 + j + k)) c:=by
 have hn:O2 (.mp B g 0) = some (.mp B g 0):=rfl
 have hf:fa j w (.mp B g 0) = some (.mp B g (0 + j)):=rfl
 have hf2:fa k 1 (.mp B g (0 + j)) = some (.mp B g (0 + j + k)):=rfl
 rw [hn,Option.bind_some,hf,Option.bind_some,hf2,Option.bind_some,O8 (n:=0 + j + k) h (by rw [Nat.zero_add]; exact hk),Option.bind_some]
theorem rdP {P k:Nat} {S:Sto} {q:AV} {cs:List AV} {c:AV} (h:Ptr P S q cs) (hk:cs[k]? = some c) {F:AV→Option R}:((O2 q).bind fun v1=>(fa k 1 v1).bind fun v2=>(ld false 1 S v2).bind fun v3=>F v3) = F c:=by
 rcases h with rfl | ⟨id,g,off,all,fz,h1,rfl,h3,h4⟩
 ·have hl:=(List.getElem?_eq_some_iff.1 hk).1
  have h1:k + 1 ≤ cs.length:=hl
  have h2:(cs.drop k).take 1 = [c]:=by
   rw [List.drop_eq_getElem_cons hl]
   simp only [List.take_succ_cons,List.take_zero]
   rw [(List.getElem?_eq_some_iff.1 hk).2]
  have hn:O2 (.ip cs) = some (.ip cs):=rfl
  simp only [hn,Option.bind_some,fa,h1,if_true,h2]
  rfl
 ·have hn:O2 (.mp id g off) = some (.mp id g off):=rfl
  have hf:fa k 1 (.mp id g off) = some (.mp id g (off + k)):=rfl
  rw [hn,Option.bind_some,hf,Option.bind_some,O8 h3 (h4 k c hk),Option.bind_some]
theorem rdO {k:Nat} {S:Sto} {cs:List AV} {c:AV} (hk:cs[k]? = some c) {F:AV→Option R}:((O2 (.ip cs)).bind fun v1=>(fa k 1 v1).bind fun v2=>(ld false 1 S v2).bind fun v3=>F v3) = F c:=rdP (P:=0) (.inl rfl) hk
end
def a0h (x n:Int):Bool:=decide (0 ≤ x) && decide (x < n)
theorem a0k (x n:Int) (st:Sto):O1 ap 36 [.int .i64 x, .int .i64 n] st = some (.ret (.bool (a0h x n)),st):=by
 rw [E3.call]
 refine O7 ?_ rfl rfl (O5.refl _ _)
 rw [E3.b_eq]
 unfold a0h
 by_cases h:0 ≤ x <;> simp [h]
def P7 (o:OpA):List (Int × Int):=
 if o.k = 2∨o.k = 8∨o.k = 11 then [(o.a,0)] else if o.k = 5 then [(o.b,0)] else if o.k = 9 then [(o.a,0),(o.b,2)] else if o.k = 10 then o.l.map fun x=>(x,0) else []
def a1r (xs:List Int):List (Int × Int):=(xs.filter fun x=>decide (x ≠ 0)).map fun x=>(x,0)
def O3 (o:OpA):List (Int × Int):=
 if o.k = 8 then a1r [o.b,o.c] else if o.k = 9 then [(o.c,2)] else if o.k = 10 then [(o.c,((o.l.length:Nat):Int))] else []
theorem pair1 (a m:Int) (st:Sto):(S8 false 1 2 (O9 (fun i=>some (i * 2,2)) [.int .i64 0, .int .i64 0] [(0, .agg [.int .i64 a, .int .i64 m])]) st) = some (.is [.int .i64 a, .int .i64 m] 1 .full,st):=rfl
theorem pair2 (a m b n:Int) (st:Sto):(S8 false 2 2 (O9 (fun i=>some (i * 2,2)) [.int .i64 0, .int .i64 0, .int .i64 0, .int .i64 0] [(0, .agg [.int .i64 a, .int .i64 m]),(1, .agg [.int .i64 b, .int .i64 n])]) st) = some (.is [.int .i64 a, .int .i64 m, .int .i64 b, .int .i64 n] 2 .full,st):=rfl
theorem agg2 (a m:Int):(X3 (O9 (fun i=>some (i * 1,1)) [.int .i64 0, .int .i64 0] [(0, .int .i64 a),(1,(.int .i64 m))])) = some (.agg [.int .i64 a, .int .i64 m]):=rfl
theorem ins1 (a m:Int):a19 [(a,m)] (.is [.int .i64 a, .int .i64 m] 1 .full) := .inr ⟨[], .full,rfl⟩
theorem ins2 (a m b n:Int):a19 [(a,m),(b,n)] (.is [.int .i64 a, .int .i64 m, .int .i64 b, .int .i64 n] 2 .full) := .inr ⟨[], .full,rfl⟩
theorem codes_loop {l:List Int} {lv:AV} (hl:W4 l lv) (hs:l.length ≤ 1050000) (n:Nat):∀ (m i:Nat) (t:AV) (st:Sto),i + m = l.length→n ≤ st.length→BufT 2 n st t (Q5 ((l.take i).map fun x=>(x,0))) i →
  ∃ t' st',p1.I3 t lv ((l.length:Nat):Int) ((i:Nat):Int) st = some ⟨.ret t',none,st'⟩∧BufT 2 n st' t' (Q5 (l.map fun x=>(x,0))) l.length∧O5 n st st':=by
 intro m
 induction m with
 | zero=>
  intro i t st him hn ht
  have hi:i = l.length:=by omega
  subst hi
  refine ⟨t,st,?_,by rw [List.take_length] at ht; exact ht,O5.refl _ _⟩
  rw [p1.I3_e]
  exact bf (O0 (by omega))
 | succ m ih=>
  intro i t st him hn ht
  have hi:i < l.length:=by omega
  obtain ⟨cs,hia,rfl⟩:=hl.2.2.2 i hi
  have w1:IntKind.wrap .i64 (((i:Nat):Int) + 1) = ((i + 1:Nat):Int):=w64 _ (by omega) (by omega)
  have htk:l.take (i + 1) = l.take i ++ [l.getD i 0]:=by
   rw [List.take_add_one,List.getElem?_eq_getElem hi,List.getD_eq_getElem?_getD,List.getElem?_eq_getElem hi]; rfl
  have hlen:((l.take i).map fun x=>((x,0):Int × Int)).length = i:=by rw [List.length_map,List.length_take]; omega
  obtain ⟨t1,st1,a,b,c,d⟩:=push2 (x:=l.getD i 0) (m:=0) ht hlen.symm hn (by rw [hlen]; omega)
  have hb2:BufT 2 n st1 t1 (Q5 ((l.take (i + 1)).map fun x=>(x,0))) (i + 1):=by
   rw [htk,List.map_append]
   have:(((l.take i).map fun x=>((x,0):Int × Int)) ++ [(l.getD i 0,0)]).length = i + 1:=by rw [List.length_append,hlen]; rfl
   rw [this] at b
   exact b
  obtain ⟨t',st',e1,e2,e3⟩:=ih (i + 1) t1 st1 (by omega) (by omega) hb2
  refine ⟨t',st',?_,e2,c.trans e3⟩
  rw [p1.I3_e]
  refine (bt (O4 (by omega))).trans ?_
  refine (br hia).trans ?_
  refine (br (l1 _ _)).trans ?_
  refine (br (agg2 _ _)).trans ?_
  refine (br (pair1 _ _ _)).trans ?_
  refine (br a).trans ?_
  rw [w1]
  exact e1
theorem a4H {o:OpA} {lv:AV} (hl:W4 o.l lv) (hs:o.l.length ≤ 1050000) (st:Sto):∃ v,O1 ap 60 [.ip (oc o lv)] st = some (.ret v,st)∧a19 (P7 o) v:=by
 have r0:∀ {F:AV→Option Res},((O2 (.ip (oc o lv))).bind fun v1=>(fa 0 1 v1).bind fun v2=>(ld false 1 st v2).bind fun v3=>F v3) = F (.int .i64 o.k):=rdO rfl
 have r1:∀ {F:AV→Option Res},((O2 (.ip (oc o lv))).bind fun v1=>(fa 1 1 v1).bind fun v2=>(ld false 1 st v2).bind fun v3=>F v3) = F (.int .i64 o.a):=rdO rfl
 have r2:∀ {F:AV→Option Res},((O2 (.ip (oc o lv))).bind fun v1=>(fa 2 1 v1).bind fun v2=>(ld false 1 st v2).bind fun v3=>F v3) = F (.int .i64 o.b):=rdO rfl
 have r4:∀ {F:AV→Option Res},((O2 (.ip (oc o lv))).bind fun v1=>(fa 4 1 v1).bind fun v2=>(ld false 1 st v2).bind fun v3=>F v3) = F lv:=rdO rfl
 rw [p1.call]
 have first:o.k = 2∨o.k = 8∨o.k = 11→∀ t,p1.G9 (.ip (oc o lv)) t true st = some ⟨.ret (.is [.int .i64 o.a, .int .i64 0] 1 .full),none,st⟩:=fun _ t=>by
  rw [p1.G9_e]
  exact (bt rfl).trans (r1.trans ((br (agg2 _ _)).trans (br (pair1 _ _ _))))
 by_cases h1:o.k = 2∨o.k = 8∨o.k = 11
 ·refine ⟨.is [.int .i64 o.a, .int .i64 0] 1 .full,O7 ?_ rfl rfl (O5.refl _ _),by unfold P7; rw [if_pos h1]; exact ins1 _ _⟩
  rw [p1.b_eq]
  refine r0.trans ?_
  refine (br (aI _)).trans ?_
  by_cases a:o.k = 2
  ·refine (bt (O4 a)).trans ?_
   rw [O4 a]
   exact first h1 _
  ·refine (bf (O0 a)).trans ?_
   refine (br (aI _)).trans ?_
   by_cases b:o.k = 8
   ·refine (bt (O4 b)).trans ?_
    rw [O4 b]
    exact first h1 _
   ·refine (bf (O0 b)).trans ?_
    refine (br (aI _)).trans ?_
    rw [O4 (show o.k = 11 by omega)]
    exact first h1 _
 ·have hb:p1.b (.ip (oc o lv)) st = p1.G9 (.ip (oc o lv)) (.int .i64 o.k) false st:=by
   rw [p1.b_eq]
   refine r0.trans ?_
   refine (br (aI _)).trans ?_
   refine (bf (O0 (by omega))).trans ?_
   refine (br (aI _)).trans ?_
   refine (bf (O0 (by omega))).trans ?_
   refine (br (aI _)).trans ?_
   rw [O0 (show ¬ o.k = 11 by omega)]
  rw [hb]
  unfold P7
  rw [if_neg h1]
  by_cases h5:o.k = 5
  ·rw [if_pos h5]
   refine ⟨.is [.int .i64 o.b, .int .i64 0] 1 .full,O7 ?_ rfl rfl (O5.refl _ _),ins1 _ _⟩
   rw [p1.G9_e]
   exact (bf rfl).trans ((br (aI _)).trans ((bt (O4 h5)).trans (r2.trans ((br (agg2 _ _)).trans (br (pair1 _ _ _))))))
  ·rw [if_neg h5]
   by_cases h9:o.k = 9
   ·rw [if_pos h9]
    refine ⟨.is [.int .i64 o.a, .int .i64 0, .int .i64 o.b, .int .i64 2] 2 .full,O7 ?_ rfl rfl (O5.refl _ _),ins2 _ _ _ _⟩
    rw [p1.G9_e]
    exact (bf rfl).trans ((br (aI _)).trans ((bf (O0 h5)).trans ((br (aI _)).trans ((bt (O4 h9)).trans (r1.trans ((br (agg2 _ _)).trans (r2.trans ((br (agg2 _ _)).trans (br (pair2 _ _ _ _ _))))))))))
   ·rw [if_neg h9]
    by_cases h10:o.k = 10
    ·rw [if_pos h10]
     obtain ⟨t',st',e1,e2,e3⟩:=codes_loop hl hs st.length o.l.length 0 .nils st (by omega) (Nat.le_refl _) (.inl ⟨rfl,rfl,rfl⟩)
     refine buf_ret (st':=st') ?_ (by rw [List.length_map]; exact e2) e3
     rw [p1.G9_e]
     exact (bf rfl).trans ((br (aI _)).trans ((bf (O0 h5)).trans ((br (aI _)).trans ((bf (O0 h9)).trans ((br (aI _)).trans ((bt (O4 h10)).trans (r4.trans ((br hl.1).trans e1))))))))
    ·rw [if_neg h10]
     refine ⟨.nils,O7 ?_ rfl rfl (O5.refl _ _), .inl ⟨rfl,rfl⟩⟩
     rw [p1.G9_e]
     exact (bf rfl).trans ((br (aI _)).trans ((bf (O0 h5)).trans ((br (aI _)).trans ((bf (O0 h9)).trans ((br (aI _)).trans (bf (O0 h10)))))))
theorem a2v {x:Int} {row:AV} {len:Int} {n i:Nat} {t:AV} {st:Sto} {pre:List (Int × Int)} (hia:ia 1 row (.int .i64 ((i:Nat):Int)) = some (.ip [.int .i64 x])) (hi:((i:Nat):Int) < len) (hn:n ≤ st.length) (hp:pre.length ≤ 10) (hib:i ≤ 10) (ht:BufT 2 n st t (Q5 pre) pre.length) :
  ∃ t' st',o8.J0 t row len ((i:Nat):Int) st = o8.J0 t' row len ((i + 1:Nat):Int) st'∧BufT 2 n st' t' (Q5 (pre ++ a1r [x])) (pre ++ a1r [x]).length∧O5 n st st'∧st.length ≤ st'.length:=by
 have w1:IntKind.wrap .i64 (((i:Nat):Int) + 1) = ((i + 1:Nat):Int):=w64 _ (by omega) (by omega)
 by_cases hx:x = 0
 ·refine ⟨t,st,?_,by simpa [a1r,hx] using ht,O5.refl _ _,Nat.le_refl _⟩
  rw [o8.J0_e]
  refine (bt (O4 hi)).trans ?_
  refine (br hia).trans ?_
  refine (br (l1 _ _)).trans ?_
  refine (br (aI _)).trans ?_
  refine (bf (by simp [hx])).trans ?_
  rw [o8.K4_e,w1]
 ·obtain ⟨t',st',a,b,c,d⟩:=push2 (x:=x) (m:=0) ht rfl hn (by omega)
  refine ⟨t',st',?_,by simpa [a1r,hx] using b,c,d⟩
  rw [o8.J0_e]
  refine (bt (O4 hi)).trans ?_
  refine (br hia).trans ?_
  refine (br (l1 _ _)).trans ?_
  refine (br (aI _)).trans ?_
  refine (bt (by simp [hx])).trans ?_
  refine (br (agg2 _ _)).trans ?_
  refine (br (pair1 _ _ _)).trans ?_
  refine (br a).trans ?_
  rw [o8.K4_e,w1]
theorem a0H {o:OpA} {lv:AV} (hl:W4 o.l lv) (st:Sto):∃ v,O1 ap 96 [.ip (oc o lv)] st = some (.ret v,st)∧a19 (O3 o) v:=by
 have r0:∀ {F:AV→Option Res},((O2 (.ip (oc o lv))).bind fun v1=>(fa 0 1 v1).bind fun v2=>(ld false 1 st v2).bind fun v3=>F v3) = F (.int .i64 o.k):=rdO rfl
 have r2:∀ {F:AV→Option Res},((O2 (.ip (oc o lv))).bind fun v1=>(fa 2 1 v1).bind fun v2=>(ld false 1 st v2).bind fun v3=>F v3) = F (.int .i64 o.b):=rdO rfl
 have r3:∀ {F:AV→Option Res},((O2 (.ip (oc o lv))).bind fun v1=>(fa 3 1 v1).bind fun v2=>(ld false 1 st v2).bind fun v3=>F v3) = F (.int .i64 o.c):=rdO rfl
 have r4:∀ {F:AV→Option Res},((O2 (.ip (oc o lv))).bind fun v1=>(fa 4 1 v1).bind fun v2=>(ld false 1 st v2).bind fun v3=>F v3) = F lv:=rdO rfl
 rw [o8.call]
 unfold O3
 by_cases h8:o.k = 8
 ·rw [if_pos h8]
  have hlit:(S8 false 2 1 (O9 (fun i=>some (i * 1,1)) [.int .i64 0, .int .i64 0] [(0, .int .i64 o.b),(1, .int .i64 o.c)]) st) = some (.is [.int .i64 o.b, .int .i64 o.c] 2 .full,st):=rfl
  obtain ⟨t1,s1,a1,b1,c1,d1⟩:=a2v (x:=o.b) (row := .is [.int .i64 o.b, .int .i64 o.c] 2 .full) (len:=((2:Nat):Int)) (n:=st.length) (i:=0) (t := .nils) (st:=st) (pre:=[]) rfl (by omega) (Nat.le_refl _) (by simp) (by omega) (.inl ⟨rfl,rfl,rfl⟩)
  obtain ⟨t2,s2,a2,b2,c2,d2⟩:=a2v (x:=o.c) (row := .is [.int .i64 o.b, .int .i64 o.c] 2 .full) (len:=((2:Nat):Int)) (n:=st.length) (i:=1) (t:=t1) (st:=s1) (pre:=[] ++ a1r [o.b]) rfl (by omega) d1 (by simp only [a1r,List.nil_append,List.length_map]; exact Nat.le_trans (List.length_filter_le _ _) (by simp)) (by omega) b1
  have he:[] ++ a1r [o.b] ++ a1r [o.c] = a1r [o.b,o.c]:=by
   unfold a1r
   rw [List.nil_append,←List.map_append,←List.filter_append]
   rfl
  rw [he] at b2
  refine buf_ret (st':=s2) (x:=t2) ?_ b2 (c1.trans c2)
  rw [o8.b_eq]
  refine r0.trans ?_
  refine (br (aI _)).trans ?_
  refine (bt (O4 h8)).trans ?_
  refine r2.trans ?_
  refine r3.trans ?_
  refine (br hlit).trans ?_
  refine (br (show P3 (.is [.int .i64 o.b, .int .i64 o.c] 2 .full) = some 2 from rfl)).trans ?_
  refine a1.trans (a2.trans ?_)
  rw [o8.J0_e]
  exact bf (O0 (by omega))
 ·rw [if_neg h8]
  by_cases h9:o.k = 9
  ·rw [if_pos h9]
   refine ⟨.is [.int .i64 o.c, .int .i64 2] 1 .full,O7 ?_ rfl rfl (O5.refl _ _),ins1 _ _⟩
   rw [o8.b_eq]
   exact r0.trans ((br (aI _)).trans ((bf (O0 h8)).trans ((br (aI _)).trans ((bt (O4 h9)).trans (r3.trans ((br (agg2 _ _)).trans (br (pair1 _ _ _))))))))
  ·rw [if_neg h9]
   by_cases h10:o.k = 10
   ·rw [if_pos h10]
    refine ⟨.is [.int .i64 o.c, .int .i64 ((o.l.length:Nat):Int)] 1 .full,O7 ?_ rfl rfl (O5.refl _ _),ins1 _ _⟩
    rw [o8.b_eq]
    exact r0.trans ((br (aI _)).trans ((bf (O0 h8)).trans ((br (aI _)).trans ((bf (O0 h9)).trans ((br (aI _)).trans ((bt (O4 h10)).trans (r3.trans (r4.trans ((br hl.1).trans ((br (agg2 _ _)).trans (br (pair1 _ _ _))))))))))))
   ·rw [if_neg h10]
    refine ⟨.nils,O7 ?_ rfl rfl (O5.refl _ _), .inl ⟨rfl,rfl⟩⟩
    rw [o8.b_eq]
    exact r0.trans ((br (aI _)).trans ((bf (O0 h8)).trans ((br (aI _)).trans ((bf (O0 h9)).trans ((br (aI _)).trans (bf (O0 h10)))))))
structure W2 (p:PrA):Prop where
 t:p.texts.length ≤ 1050000
 ts:∀ i,(p.texts.getD i ⟨#[]⟩).size ≤ 1050000
 c:p.codes.length ≤ 1050000
 cs:∀ i,(p.codes.getD i []).length ≤ 1050000
 s:p.statics.sz ≤ 1050000
 b:p.blocks.length ≤ 1050000
 o:∀ i,(p.blocks.getD i default).ops.length ≤ 1049000∧(p.blocks.getD i default).upd.length ≤ 1050000
 l:∀ i j,((p.blocks.getD i default).ops.getD j default).l.length ≤ 1050000
structure Ar where
 owned:Bool
 loop:Bool
 depth:Int
 nest:Int
 loops:Int
 deriving Inhabited
def arc (a:Ar):List AV:=[.bool a.owned, .bool a.loop, .int .i64 a.depth, .int .i64 a.nest, .int .i64 a.loops]
def P4:List Ar→List AV
 | []=>[]
 | a :: r=>arc a ++ P4 r
structure Bk where
 num:Int
 bp:AV
 inn:Ar
 depth:Int
 opened:Int
 name:ByteArray
 first:Int
def T0 (V O g:Nat) (lets:List Int) (k:Bk):List AV:=
 [.mp V 0 0, .int .i64 k.num,k.bp, .bool k.inn.owned, .bool k.inn.loop, .int .i64 k.inn.depth, .int .i64 k.inn.nest, .int .i64 k.inn.loops, .int .i64 k.depth, .ms O g 0 lets.length 1, .int .i64 k.opened, .str k.name, .int .i64 k.first]
def FoM (ts:Fo) (v:AV):Prop:=(ts.len = 0∧v = .nils)∨∃ row tok,v = .is row ts.len tok∧row.length = tok.most ts.len * 4∧Row ts row
theorem FoM.fov {ts:Fo} {v:AV} (h:FoM ts v):FoV ts v:=by
 rcases h with h | ⟨row,tok,h1,_,h2⟩
 ·exact .inl h
 ·exact .inr ⟨row,tok,h1,h2⟩
structure Prg (p:PrA) (P:Nat) (tx cd sx bl:AV) (S:Sto):Prop where
 hP:S[P]? = some (.cells 0 [tx,cd,sx,bl] 0)
 hT:TxV p.texts tx
 hC:CdV p.codes cd
 hS:FoM p.statics sx
 hB:BlV P S p.blocks bl
theorem Prg.mono {p:PrA} {P:Nat} {tx cd sx bl:AV} {S S':Sto} (h:Prg p P tx cd sx bl S) (k:O5 (P + 1) S S'):Prg p P tx cd sx bl S':=
 ⟨by rw [k.at_ P (by omega)]; exact h.hP,h.hT,h.hC,h.hS,h.hB.mono ⟨k.len,fun i hi=>k.at_ i (by omega)⟩⟩
structure Now (P V A O B:Nat) (k:Bk) (g:Nat) (lets:List Int) (ar:List Ar) (S:Sto):Prop where
 hV:S[V]? = some (.cells 0 [.mp P 0 0, .ms A 0 0 ar.length 5] 0)
 hA:S[A]? = some (.cells 0 (P4 ar) 0)
 hB:S[B]? = some (.cells 0 (T0 V O g lets k) 0)
 hO:∃ junk,S[O]? = some (.cells g (O6 lets ++ junk) 0)
 n1:P < V
 n2:V < A
 n3:A < O
 n4:O < B
theorem Now.mono {P V A O B:Nat} {k:Bk} {g:Nat} {lets:List Int} {ar:List Ar} {S S':Sto} (h:Now P V A O B k g lets ar S) (q:∀ (j:Nat) (o:Ob),S[j]? = some o→S'[j]? = some o):Now P V A O B k g lets ar S':=by
 obtain ⟨junk,hO⟩:=h.hO
 exact ⟨q _ _ h.hV,q _ _ h.hA,q _ _ h.hB,⟨junk,q _ _ hO⟩,h.n1,h.n2,h.n3,h.n4⟩
def V5 (texts:List ByteArray) (x:Int) (tag:Bool):Bool:=a0h x ((texts.length:Nat):Int) && (!tag || a0q (texts.getD x.toNat ⟨#[]⟩) 45)
section
variable {p:PrA} {P V A O B:Nat} {tx cd sx bl:AV} {S:Sto} {k:Bk} {g:Nat} {lets:List Int} {ar:List Ar}
theorem text_spec (H:Prg p P tx cd sx bl S) (hs:W2 p) {q:AV} (hV:S[V]? = some (.cells 0 [.mp P 0 0,q] 0)) (x:Int) (tag:Bool):O1 ap 94 [.mp V 0 0, .int .i64 x, .bool tag] S = some (.ret (.bool (V5 p.texts x tag)),S):=by
 rw [C8.call]
 refine O7 ?_ rfl rfl (O5.refl _ _)
 rw [C8.b_eq]
 refine (rdM hV rfl).trans ?_
 refine (rdM H.hP rfl).trans ?_
 refine (br H.hT.1).trans ?_
 refine (cr (a0k _ _ S)).trans ?_
 refine (br (gB _)).trans ?_
 refine gs.trans ?_
 unfold V5
 cases hn:a0h x ((p.texts.length:Nat):Int) with
 | false=>exact bf rfl
 | true=>
  refine (bt rfl).trans ?_
  cases tag with
  | false=>exact bt rfl
  | true=>
   refine (bf rfl).trans ?_
   have hx:0 ≤ x∧x < ((p.texts.length:Nat):Int):=by simpa [a0h] using hn
   obtain ⟨i,rfl⟩:∃ i:Nat,x = (i:Int):=⟨x.toNat,by omega⟩
   obtain ⟨cs,hia,rfl⟩:=H.hT.2.2.2 i (by omega)
   refine (rdM hV rfl).trans ?_
   refine (rdM H.hP rfl).trans ?_
   refine (br hia).trans ?_
   refine (br (l1 _ _)).trans ?_
   refine (cr (tag_spec _ (by have:=hs.ts i; omega) S)).trans ?_
   refine (br (aB _)).trans ?_
   simp
def Y7 (xs:List Int) (o:OpA):Bool:=xs.all (fun x=>decide (x = 0)) && (decide (o.k = 10) || decide (o.l.length = 0))
theorem rK {o:OpA} {lv:AV} {K j:Nat} {c:AV} (hK:S[K]? = some (.cells 0 [.ip (oc o lv)] 0)) (hj:(oc o lv)[j]? = some c) {F:AV→Option Res}:((ld false 1 S (.mp K 0 0)).bind fun v=>(O2 v).bind fun v1=>(fa j 1 v1).bind fun v2=>(ld false 1 S v2).bind fun v3=>F v3) = F c:=by
 rw [O8 (n:=0) hK rfl,Option.bind_some]
 exact rdO hj
theorem none_loop {xs:List Int} {v:AV} (hv:W4 xs v) {o:OpA} {lv:AV} (hl:W4 o.l lv) {K:Nat} (hK:S[K]? = some (.cells 0 [.ip (oc o lv)] 0)) (hx:xs.length ≤ 100):∀ (m i:Nat),i + m = xs.length→y0.F4 (.mp K 0 0) v ((xs.length:Nat):Int) ((i:Nat):Int) S = some ⟨.ret (.bool (Y7 (xs.drop i) o)),none,S⟩:=by
 intro m
 induction m with
 | zero=>
  intro i him
  have hi:i = xs.length:=by omega
  subst hi
  rw [y0.F4_e,List.drop_length]
  refine (bf (O0 (by omega))).trans ?_
  refine (rK hK (j:=0) rfl).trans ?_
  refine (br (aI _)).trans ?_
  unfold Y7
  by_cases h10:o.k = 10
  ·refine (bt (O4 h10)).trans ?_
   simp [h10]
  ·refine (bf (O0 h10)).trans ?_
   refine (rK hK (j:=4) rfl).trans ?_
   refine (br hl.1).trans ?_
   have:(((o.l.length:Nat):Int) = 0) ↔ o.l.length = 0:=by omega
   simp [h10]
 | succ m ih=>
  intro i him
  have hi:i < xs.length:=by omega
  obtain ⟨cs,hia,rfl⟩:=hv.2.2.2 i hi
  have w1:IntKind.wrap .i64 (((i:Nat):Int) + 1) = ((i + 1:Nat):Int):=w64 _ (by omega) (by omega)
  have hd:xs.drop i = xs.getD i 0 :: xs.drop (i + 1):=by
   rw [List.drop_eq_getElem_cons hi,List.getD_eq_getElem?_getD,List.getElem?_eq_getElem hi]; rfl
  rw [y0.F4_e,hd]
  refine (bt (O4 (by omega))).trans ?_
  refine (br hia).trans ?_
  refine (br (l1 _ _)).trans ?_
  refine (br (aI _)).trans ?_
  by_cases h0:xs.getD i 0 = 0
  ·refine (bf (by rw [h0]; rfl)).trans ?_
   rw [w1,ih (i + 1) (by omega)]
   simp only [Y7,List.all_cons,h0,decide_true,Bool.true_and]
  ·refine (bt (by simp only [h0,decide_false,Bool.not_false])).trans ?_
   simp only [Y7,List.all_cons,h0,decide_false,Bool.false_and]
theorem a1Y {xs:List Int} {v:AV} (hv:W4 xs v) {o:OpA} {lv:AV} (hl:W4 o.l lv) {K:Nat} (hK:S[K]? = some (.cells 0 [.ip (oc o lv)] 0)) (hx:xs.length ≤ 100):V4 ap (O1 ap) (.fn (.func 93) [] [.mp K 0 0]) [v] S = some (.ret (.bool (Y7 xs o)),S):=by
 show O1 ap 93 [v, .mp K 0 0] S = _
 rw [y0.call]
 refine O7 ?_ rfl rfl (O5.refl _ _)
 rw [y0.b_eq]
 refine (br hv.1).trans ?_
 exact none_loop hv hl hK hx xs.length 0 (by omega)
theorem int0:W4 [] .nils:=⟨rfl,rfl,rfl,fun i hi=>by simp at hi⟩
theorem int1 (a:Int):W4 [a] (.is [.int .i64 a] 1 .full):=⟨rfl,rfl,rfl,fun i hi=>by
 obtain rfl:i = 0:=by simpa using hi
 exact ⟨_,rfl,rfl⟩⟩
theorem int2 (a b:Int):W4 [a,b] (.is [.int .i64 a, .int .i64 b] 2 .full):=⟨rfl,rfl,rfl,fun i hi=>by
 have:i = 0∨i = 1:=by simp at hi; omega
 rcases this with rfl | rfl
 ·exact ⟨_,rfl,rfl⟩
 ·exact ⟨_,rfl,rfl⟩⟩
theorem int3 (a b c:Int):W4 [a,b,c] (.is [.int .i64 a, .int .i64 b, .int .i64 c] 3 .full):=⟨rfl,rfl,rfl,fun i hi=>by
 have:i = 0∨i = 1∨i = 2:=by simp at hi; omega
 rcases this with rfl | rfl | rfl
 ·exact ⟨_,rfl,rfl⟩
 ·exact ⟨_,rfl,rfl⟩
 ·exact ⟨_,rfl,rfl⟩⟩
def a00 (p:PrA) (o:OpA):Bool:=
 if o.k = 1 then Y7 [o.b,o.c] o && V5 p.texts o.a false
 else if o.k = 3 then Y7 [o.b,o.c] o && V5 p.texts o.a true
 else if o.k = 4 then Y7 [o.c] o && (V5 p.texts o.a true && V5 p.texts o.b false)
 else if o.k = 5 then Y7 [o.c] o && V5 p.texts o.a true
 else if o.k = 6 then Y7 [o.a,o.b,o.c] o
 else if o.k = 7 then Y7 [o.b,o.c] o && a0h o.a ((p.statics.len:Nat):Int)
 else if o.k = 12 then Y7 [o.b,o.c] o && decide (1 ≤ o.a)
 else if o.k = 2∨o.k = 11 then Y7 [o.b,o.c] o
 else if o.k = 8∨o.k = 9 then Y7 [] o
 else if o.k = 10 then Y7 [o.a,o.b] o
 else false
def Y6 (p:PrA) (i:Nat) (o:OpA):Bool:=!(decide (8192 ≤ i) || decide (64 < o.l.length)) && ((P7 o).all (fun c=>a0h c.1 ((p.codes.length:Nat):Int)) && a00 p o)
theorem kind_spec (H:Prg p P tx cd sx bl S) (hs:W2 p) (hN:Now P V A O B k g lets ar S) {o:OpA} {lv:AV} (hl:W4 o.l lv) {K:Nat} (hK:S[K]? = some (.cells 0 [.ip (oc o lv)] 0)) (t22:AV) (n:Int) :
  i7.F1 (.mp B 0 0) K (.fn (.func 93) [] [.mp K 0 0]) t22 n n S = some ⟨.ret (.bool (a00 p o)),none,S⟩:=by
 have lit1:∀ a:Int,(S8 false 1 1 (O9 (fun i=>some (i * 1,1)) [.int .i64 0] [(0, .int .i64 a)]) S) = some (.is [.int .i64 a] 1 .full,S):=fun _=>rfl
 have lit2:∀ a b:Int,(S8 false 2 1 (O9 (fun i=>some (i * 1,1)) [.int .i64 0, .int .i64 0] [(0, .int .i64 a),(1, .int .i64 b)]) S) = some (.is [.int .i64 a, .int .i64 b] 2 .full,S):=fun _ _=>rfl
 have lit3:∀ a b c:Int,(S8 false 3 1 (O9 (fun i=>some (i * 1,1)) [.int .i64 0, .int .i64 0, .int .i64 0] [(0, .int .i64 a),(1, .int .i64 b),(2, .int .i64 c)]) S) = some (.is [.int .i64 a, .int .i64 b, .int .i64 c] 3 .full,S):=fun _ _ _=>rfl
 have n0:=a1Y int0 hl hK (by simp)
 have n1:=fun a=>a1Y (int1 a) hl hK (by simp)
 have n2:=fun a b=>a1Y (int2 a b) hl hK (by simp)
 have n3:=fun a b c=>a1Y (int3 a b c) hl hK (by simp)
 have tx:=fun x t=>text_spec H hs hN.hV x t
 rw [i7.F1_e]
 refine (bf (O0 (by omega))).trans ?_
 refine (rK hK (j:=0) rfl).trans ?_
 refine (br (aI _)).trans ?_
 unfold a00
 by_cases h1:o.k = 1
 ·rw [if_pos h1]
  refine (bt (O4 h1)).trans ?_
  refine (rK hK (j:=2) rfl).trans ?_
  refine (rK hK (j:=3) rfl).trans ?_
  refine (br (lit2 _ _)).trans ?_
  refine (cr (n2 _ _)).trans ?_
  refine (br (gB _)).trans ?_
  refine gs.trans ?_
  cases Y7 [o.b,o.c] o with
  | false=>exact bf rfl
  | true=>
   refine (bt rfl).trans ?_
   refine (rdM hN.hB rfl).trans ?_
   refine (rK hK (j:=1) rfl).trans ?_
   refine (cr (tx _ _)).trans ?_
   refine (it rfl).trans ?_
   exact br (aB _)
 rw [if_neg h1]
 refine (bf (O0 h1)).trans ?_
 refine (br (aI _)).trans ?_
 by_cases h3:o.k = 3
 ·rw [if_pos h3]
  refine (bt (O4 h3)).trans ?_
  refine (rK hK (j:=2) rfl).trans ?_
  refine (rK hK (j:=3) rfl).trans ?_
  refine (br (lit2 _ _)).trans ?_
  refine (cr (n2 _ _)).trans ?_
  refine (br (gB _)).trans ?_
  refine gs.trans ?_
  cases Y7 [o.b,o.c] o with
  | false=>exact bf rfl
  | true=>
   refine (bt rfl).trans ?_
   refine (rdM hN.hB rfl).trans ?_
   refine (rK hK (j:=1) rfl).trans ?_
   refine (cr (tx _ _)).trans ?_
   refine (it rfl).trans ?_
   exact br (aB _)
 rw [if_neg h3]
 refine (bf (O0 h3)).trans ?_
 refine (br (aI _)).trans ?_
 by_cases h4:o.k = 4
 ·rw [if_pos h4]
  refine (bt (O4 h4)).trans ?_
  refine (rK hK (j:=3) rfl).trans ?_
  refine (br (lit1 _)).trans ?_
  refine (cr (n1 _)).trans ?_
  refine (br (gB _)).trans ?_
  refine gs.trans ?_
  cases Y7 [o.c] o with
  | false=>exact bf rfl
  | true=>
   refine (bt rfl).trans ?_
   refine (rdM hN.hB rfl).trans ?_
   refine (rK hK (j:=1) rfl).trans ?_
   refine (cr (tx _ _)).trans ?_
   refine (it rfl).trans ?_
   refine (br (aB _)).trans ?_
   cases V5 p.texts o.a true with
   | false=>exact bf rfl
   | true=>
    refine (bt rfl).trans ?_
    refine (rdM hN.hB rfl).trans ?_
    refine (rK hK (j:=2) rfl).trans ?_
    refine (cr (tx _ _)).trans ?_
    refine (it rfl).trans ?_
    exact br (aB _)
 rw [if_neg h4]
 refine (bf (O0 h4)).trans ?_
 refine (br (aI _)).trans ?_
 by_cases h5:o.k = 5
 ·rw [if_pos h5]
  refine (bt (O4 h5)).trans ?_
  refine (rK hK (j:=3) rfl).trans ?_
  refine (br (lit1 _)).trans ?_
  refine (cr (n1 _)).trans ?_
  refine (br (gB _)).trans ?_
  refine gs.trans ?_
  cases Y7 [o.c] o with
  | false=>exact bf rfl
  | true=>
   refine (bt rfl).trans ?_
   refine (rdM hN.hB rfl).trans ?_
   refine (rK hK (j:=1) rfl).trans ?_
   refine (cr (tx _ _)).trans ?_
   refine (it rfl).trans ?_
   exact br (aB _)
 rw [if_neg h5]
 refine (bf (O0 h5)).trans ?_
 refine (br (aI _)).trans ?_
 by_cases h6:o.k = 6
 ·rw [if_pos h6]
  refine (bt (O4 h6)).trans ?_
  refine (rK hK (j:=1) rfl).trans ?_
  refine (rK hK (j:=2) rfl).trans ?_
  refine (rK hK (j:=3) rfl).trans ?_
  refine (br (lit3 _ _ _)).trans ?_
  exact cr (n3 _ _ _)
 rw [if_neg h6]
 refine (bf (O0 h6)).trans ?_
 refine (br (aI _)).trans ?_
 by_cases h7:o.k = 7
 ·rw [if_pos h7]
  refine (bt (O4 h7)).trans ?_
  refine (rK hK (j:=2) rfl).trans ?_
  refine (rK hK (j:=3) rfl).trans ?_
  refine (br (lit2 _ _)).trans ?_
  refine (cr (n2 _ _)).trans ?_
  refine (br (gB _)).trans ?_
  refine gs.trans ?_
  cases Y7 [o.b,o.c] o with
  | false=>exact bf rfl
  | true=>
   refine (bt rfl).trans ?_
   refine (rK hK (j:=1) rfl).trans ?_
   refine (rdM hN.hB rfl).trans ?_
   refine (rdM hN.hV rfl).trans ?_
   refine (rdM H.hP rfl).trans ?_
   refine (br H.hS.fov.len).trans ?_
   refine (cr (a0k _ _ S)).trans ?_
   refine (it rfl).trans ?_
   exact br (aB _)
 rw [if_neg h7]
 refine (bf (O0 h7)).trans ?_
 refine (br (aI _)).trans ?_
 by_cases h12:o.k = 12
 ·rw [if_pos h12]
  refine (bt (O4 h12)).trans ?_
  refine (rK hK (j:=2) rfl).trans ?_
  refine (rK hK (j:=3) rfl).trans ?_
  refine (br (lit2 _ _)).trans ?_
  refine (cr (n2 _ _)).trans ?_
  refine (br (gB _)).trans ?_
  refine gs.trans ?_
  cases Y7 [o.b,o.c] o with
  | false=>exact bf rfl
  | true=>
   refine (bt rfl).trans ?_
   refine (rK hK (j:=1) rfl).trans ?_
   exact br (aI _)
 rw [if_neg h12]
 refine (bf (O0 h12)).trans ?_
 refine (br (aI _)).trans ?_
 have last:i7.H3 K (.fn (.func 93) [] [.mp K 0 0]) (.int .i64 o.k) (decide (o.k = 8∨o.k = 9)) S = some ⟨.ret (.bool (if o.k = 8∨o.k = 9 then Y7 [] o else if o.k = 10 then Y7 [o.a,o.b] o else false)),none,S⟩:=by
  rw [i7.H3_e]
  by_cases h8:o.k = 8∨o.k = 9
  ·rw [if_pos h8]
   refine (bt (O4 h8)).trans ?_
   exact cr n0
  ·rw [if_neg h8]
   refine (bf (O0 h8)).trans ?_
   refine (br (aI _)).trans ?_
   by_cases h10:o.k = 10
   ·rw [if_pos h10]
    refine (bt (O4 h10)).trans ?_
    refine (rK hK (j:=1) rfl).trans ?_
    refine (rK hK (j:=2) rfl).trans ?_
    refine (br (lit2 _ _)).trans ?_
    exact cr (n2 _ _)
   ·rw [if_neg h10]
    exact bf (O0 h10)
 have mid:i7.H7 K (.fn (.func 93) [] [.mp K 0 0]) (.int .i64 o.k) (decide (o.k = 2∨o.k = 11)) S = some ⟨.ret (.bool (if o.k = 2∨o.k = 11 then Y7 [o.b,o.c] o else if o.k = 8∨o.k = 9 then Y7 [] o else if o.k = 10 then Y7 [o.a,o.b] o else false)),none,S⟩:=by
  rw [i7.H7_e]
  by_cases h2:o.k = 2∨o.k = 11
  ·rw [if_pos h2]
   refine (bt (O4 h2)).trans ?_
   refine (rK hK (j:=2) rfl).trans ?_
   refine (rK hK (j:=3) rfl).trans ?_
   refine (br (lit2 _ _)).trans ?_
   exact cr (n2 _ _)
  ·rw [if_neg h2]
   refine (bf (O0 h2)).trans ?_
   refine (br (aI _)).trans ?_
   by_cases h8:o.k = 8
   ·refine (bt (O4 h8)).trans ?_
    rw [show decide (o.k = 8) = decide (o.k = 8∨o.k = 9) by simp [h8]]
    exact last
   ·refine (bf (O0 h8)).trans ?_
    refine (br (aI _)).trans ?_
    rw [show decide (o.k = 9) = decide (o.k = 8∨o.k = 9) by simp [h8]]
    exact last
 by_cases h2:o.k = 2
 ·refine (bt (O4 h2)).trans ?_
  rw [show decide (o.k = 2) = decide (o.k = 2∨o.k = 11) by simp [h2]]
  exact mid
 ·refine (bf (O0 h2)).trans ?_
  refine (br (aI _)).trans ?_
  rw [show decide (o.k = 11) = decide (o.k = 2∨o.k = 11) by simp [h2]]
  exact mid
theorem a1O (x m:Int) (S:Sto):sto 2 (S ++ [Ob.cells 0 [.int .i64 0, .int .i64 0] 0]) (.mp S.length 0 0) (.agg [.int .i64 x, .int .i64 m]) = some (S ++ [Ob.cells 0 [.int .i64 x, .int .i64 m] 0]):=a3P (cs:=[.int .i64 0, .int .i64 0]) (cs':=[.int .i64 x, .int .i64 m]) rfl rfl rfl
theorem a0r (n:Nat):a03 2 1 (.mp n 0 0) (.int .i64 0) = some (.mp n 0 0):=rfl
theorem pair_at1 (n:Nat):a03 2 1 (.mp n 0 0) (.int .i64 1) = some (.mp n 0 1):=rfl
theorem a39 (x m:Int) (S:Sto):ld false 1 (S ++ [Ob.cells 0 [.int .i64 x, .int .i64 m] 0]) (.mp S.length 0 0) = some (.int .i64 x):=O8 (n:=0) (g:=0) (fz:=0) (cs:=[.int .i64 x, .int .i64 m]) (by simp) rfl
theorem a3J (x m:Int) (S:Sto):ld false 1 (S ++ [Ob.cells 0 [.int .i64 x, .int .i64 m] 0]) (.mp S.length 0 1) = some (.int .i64 m):=O8 (n:=1) (g:=0) (fz:=0) (cs:=[.int .i64 x, .int .i64 m]) (by simp) rfl
theorem a0B {S l:Sto}:∀ (j:Nat) (o:Ob),S[j]? = some o→(S ++ l)[j]? = some o:=fun _ _ h=>P8 h
theorem a0G {l:List (Int × Int)} {i:Nat} (hi:i < l.length):∃ x,l[i]? = some x∧l.drop i = x :: l.drop (i + 1):=⟨l[i],List.getElem?_eq_getElem hi,List.drop_eq_getElem_cons hi⟩
theorem form_loop (hs:W2 p) {o:OpA} {lv:AV} (hl:W4 o.l lv) {K n0:Nat} {cv:AV} (hc:a19 (P7 o) cv) (hcl:(P7 o).length ≤ 1050000):∀ (m i:Nat) (S:Sto),i + m = (P7 o).length→n0 ≤ S.length→P + 1 ≤ S.length→Prg p P tx cd sx bl S→Now P V A O B k g lets ar S→S[K]? = some (.cells 0 [.ip (oc o lv)] 0) →
  ∃ S',i7.F1 (.mp B 0 0) K (.fn (.func 93) [] [.mp K 0 0]) cv (((P7 o).length:Nat):Int) ((i:Nat):Int) S = some ⟨.ret (.bool (((P7 o).drop i).all (fun c=>a0h c.1 ((p.codes.length:Nat):Int)) && a00 p o)),none,S'⟩∧O5 n0 S S':=by
 intro m
 induction m with
 | zero=>
  intro i S him hn0 hPl H hN hK
  have hi:i = (P7 o).length:=by omega
  subst hi
  exact ⟨S,by rw [kind_spec H hs hN hl hK,List.drop_length]; rfl,O5.refl _ _⟩
 | succ m ih=>
  intro i S him hn0 hPl H hN hK
  have hi:i < (P7 o).length:=by omega
  obtain ⟨x,hx,hd⟩:=a0G hi
  have hia:=a1v hc hx
  have w1:IntKind.wrap .i64 (((i:Nat):Int) + 1) = ((i + 1:Nat):Int):=w64 _ (by omega) (by omega)
  obtain ⟨S1,hS1⟩:∃ S1,S1 = S ++ [Ob.cells 0 [.int .i64 x.1, .int .i64 x.2] 0]:=⟨_,rfl⟩
  have H1:Prg p P tx cd sx bl S1:=by rw [hS1]; exact H.mono (O5.app hPl)
  have hN1:Now P V A O B k g lets ar S1:=by rw [hS1]; exact hN.mono a0B
  have hK1:S1[K]? = some (.cells 0 [.ip (oc o lv)] 0):=by rw [hS1]; exact P8 hK
  have hk1:O5 n0 S S1:=by rw [hS1]; exact O5.app hn0
  have hl1:S.length ≤ S1.length:=by rw [hS1]; simp
  have go:∀ b,b = a0h x.1 ((p.codes.length:Nat):Int)→∀ R,(bif !b then some ⟨.ret (.bool false),none,S1⟩ else i7.F1 (.mp B 0 0) K (.fn (.func 93) [] [.mp K 0 0]) cv (((P7 o).length:Nat):Int) ((i + 1:Nat):Int) S1) = R→i7.F1 (.mp B 0 0) K (.fn (.func 93) [] [.mp K 0 0]) cv (((P7 o).length:Nat):Int) ((i:Nat):Int) S = R:=by
   intro b hb R hR
   rw [i7.F1_e]
   refine (bt (O4 (by omega))).trans ?_
   refine (br hia).trans ?_
   refine (br (l2 _ _ _)).trans ?_
   refine (br (a1O _ _ _)).trans ?_
   refine (br (a0r _)).trans ?_
   refine (br (a39 _ _ _)).trans ?_
   rw [←hS1]
   refine (rdM hN1.hB rfl).trans ?_
   refine (rdM hN1.hV rfl).trans ?_
   refine (rdM H1.hP rfl).trans ?_
   refine (br H1.hC.1).trans ?_
   refine (cr (a0k _ _ S1)).trans ?_
   refine (it rfl).trans ?_
   refine (br (aB _)).trans ?_
   rw [w1,←hb]
   exact hR
  cases hb:a0h x.1 ((p.codes.length:Nat):Int) with
  | false=>
   refine ⟨S1,?_,hk1⟩
   refine go false hb.symm _ ?_
   refine (bt rfl).trans ?_
   rw [hd,List.all_cons,hb]
   rfl
  | true=>
   obtain ⟨S',e1,e2⟩:=ih (i + 1) S1 (by omega) (by omega) (by omega) H1 hN1 hK1
   refine ⟨S',?_,hk1.trans e2⟩
   refine go true hb.symm _ ?_
   refine (bf rfl).trans ?_
   rw [e1,hd,List.all_cons,hb,Bool.true_and]
theorem a0S {o:OpA} (h:o.l.length ≤ 1050000):(P7 o).length ≤ 1050000:=by
 unfold P7
 repeat' split
 all_goals simp
 exact h
theorem form_spec (H:Prg p P tx cd sx bl S) (hs:W2 p) (hN:Now P V A O B k g lets ar S) {o:OpA} {lv:AV} (hl:W4 o.l lv) (hol:o.l.length ≤ 1050000) (i:Nat):O1 ap 59 [.mp B 0 0, .int .i64 ((i:Nat):Int), .ip (oc o lv)] S = some (.ret (.bool (Y6 p i o)),S):=by
 rw [i7.call]
 suffices hb:∃ S',i7.b (.mp B 0 0) ((i:Nat):Int) (.ip (oc o lv)) S = some ⟨.ret (.bool (Y6 p i o)),none,S'⟩∧O5 S.length S S' by
  obtain ⟨S',k1,k2⟩:=hb
  exact O7 k1 rfl rfl k2
 obtain ⟨S1,hS1⟩:∃ S1,S1 = S ++ [Ob.cells 0 [.ip (oc o lv)] 0]:=⟨_,rfl⟩
 have hPl:=(List.getElem?_eq_some_iff.1 H.hP).1
 have H1:Prg p P tx cd sx bl S1:=by rw [hS1]; exact H.mono (O5.app hPl)
 have hN1:Now P V A O B k g lets ar S1:=by rw [hS1]; exact hN.mono a0B
 have hK1:S1[S.length]? = some (.cells 0 [.ip (oc o lv)] 0):=by rw [hS1]; simp
 have hk1:O5 S.length S S1:=by rw [hS1]; exact O5.app (Nat.le_refl _)
 have hcells:AV.cells (.ip (oc o lv)) = [.ip (oc o lv)]:=rfl
 rw [i7.b_eq,hcells]
 unfold Y6
 have rest:∀ b,b = (decide (8192 ≤ i) || decide (64 < o.l.length))→∃ S',i7.F2 (.mp B 0 0) S.length (.fn (.func 93) [] [.mp S.length 0 0]) b S1 = some ⟨.ret (.bool (!(decide (8192 ≤ i) || decide (64 < o.l.length)) && ((P7 o).all (fun c=>a0h c.1 ((p.codes.length:Nat):Int)) && a00 p o))),none,S'⟩∧O5 S.length S1 S':=by
  intro b hb
  rw [←hb,i7.F2_e]
  cases b with
  | true=>exact ⟨S1,bt rfl,O5.refl _ _⟩
  | false=>
   obtain ⟨cv,hc,hcv⟩:=a4H hl hol S1
   obtain ⟨S',e1,e2⟩:=form_loop hs hl (K:=S.length) (n0:=S.length) hcv (a0S hol) (P7 o).length 0 S1 (by omega) (by rw [hS1]; simp) (by rw [hS1]; simp; omega) H1 hN1 hK1
   refine ⟨S',?_,e2⟩
   refine (bf rfl).trans ?_
   refine (br (O8 (n:=0) hK1 rfl)).trans ?_
   refine (cr hc).trans ?_
   refine (br hcv.len).trans ?_
   exact e1
 by_cases h1:8192 ≤ i
 ·obtain ⟨S',e1,e2⟩:=rest true (by rw [O4 h1,Bool.true_or])
  refine ⟨S',?_,hk1.trans e2⟩
  refine (it rfl).trans ?_
  rw [←hS1]
  exact (bt (O4 (by omega))).trans e1
 ·obtain ⟨S',e1,e2⟩:=rest (decide (64 < o.l.length)) (by rw [O0 h1,Bool.false_or])
  refine ⟨S',?_,hk1.trans e2⟩
  refine (it rfl).trans ?_
  rw [←hS1]
  refine (bf (O0 (by omega))).trans ?_
  refine (rK hK1 (j:=4) rfl).trans ?_
  refine (br hl.1).trans ?_
  rw [show decide (64 < ((o.l.length:Nat):Int)) = decide (64 < o.l.length) from decide_eq_decide.2 (by omega)]
  exact e1
end
end Go.Proofs.YtcgepgahgihojaaGreatDoor
namespace Go.Proofs.YtcgepgahgihojaaGreatDoor
open Go.St Go.Lib
set_option linter.unusedVariables false
set_option linter.unusedSimpArgs false
theorem via {a b:Option Res} {X:Sto→Option Res} {Q:Sto→Prop} (h:a = b) (k:∃ S',b = X S'∧Q S'):∃ S',a = X S'∧Q S':=by rw [h]; exact k
section
variable {p:PrA} {P V A O B:Nat} {tx cd sx bl:AV} {S:Sto} {k:Bk} {g:Nat} {lets:List Int} {ar:List Ar}
theorem a0E (hN:Now P V A O B k g lets ar S) (hl:0 < lets.length) (hl2:lets.length ≤ 1050000):O1 ap 34 [.mp B 0 0] S = some (.ret (.mp O g (lets.length - 1)),S):=by
 have hBl:=(List.getElem?_eq_some_iff.1 hN.hB).1
 have h4:=hN.n4
 have w1:IntKind.wrap .i64 (((lets.length:Nat):Int) - 1) = ((lets.length - 1:Nat):Int):=w64 _ (by omega) (by omega)
 have hia:ia 1 (.ms O g 0 lets.length 1) (.int .i64 ((lets.length - 1:Nat):Int)) = some (.mp O g (lets.length - 1)):=by
  simp only [ia,if_true,P9 (show lets.length - 1 < lets.length by omega),Option.bind_some,Nat.zero_add,Nat.mul_one]
 rw [D3.call]
 refine O7 ?_ rfl (by simp only [AV.old,decide_eq_true_eq]; omega) (O5.refl _ _)
 rw [D3.b_eq]
 refine (rdM hN.hB rfl).trans ?_
 refine (rdM hN.hB rfl).trans ?_
 refine (br (show P3 (.ms O g 0 lets.length 1) = some lets.length from rfl)).trans ?_
 rw [w1]
 exact br hia
def Q2 (l:List Int):Int:=l.getD (l.length - 1) 0
theorem a1M (hN:Now P V A O B k g lets ar S) (hl:0 < lets.length):ld false 1 S (.mp O g (lets.length - 1)) = some (.int .i64 (Q2 lets)):=by
 obtain ⟨junk,hO⟩:=hN.hO
 refine O8 hO ?_
 have h:lets.length - 1 < lets.length:=by omega
 rw [List.getElem?_append_left (by simpa [O6] using h)]
 simp only [O6,List.getElem?_map,List.getElem?_eq_getElem h,Option.map_some,Q2,List.getD_eq_getElem?_getD,Option.getD_some]
def a1w (k:Bk) (o:OpA):Bool:=if o.k = 11 then decide (64 < IntKind.wrap .i64 (k.depth + 1)) else (O3 o).any fun c=>decide (64 < IntKind.wrap .i64 (k.depth + c.2))
theorem W9 (o:OpA):(O3 o).length ≤ 2:=by
 unfold O3
 split
 ·simp only [a1r,List.length_map]
  exact Nat.le_trans (List.length_filter_le _ _) (by simp)
 ·repeat' split
  all_goals simp
theorem deep_loop {o:OpA} {cv:AV} (hc:a19 (O3 o) cv) {n0:Nat}:∀ (m i:Nat) (S:Sto),i + m = (O3 o).length→n0 ≤ S.length→Now P V A O B k g lets ar S →
  ∃ S',w5.F0 (.mp B 0 0) cv (((O3 o).length:Nat):Int) ((i:Nat):Int) S = some ⟨.ret (.bool (((O3 o).drop i).any fun c=>decide (64 < IntKind.wrap .i64 (k.depth + c.2)))),none,S'⟩∧O5 n0 S S':=by
 have hbl:=W9 o
 intro m
 induction m with
 | zero=>
  intro i S him hn0 hN
  have hi:i = (O3 o).length:=by omega
  subst hi
  refine ⟨S,?_,O5.refl _ _⟩
  rw [w5.F0_e,List.drop_length]
  exact bf (O0 (by omega))
 | succ m ih=>
  intro i S him hn0 hN
  have hi:i < (O3 o).length:=by omega
  obtain ⟨x,hx,hd⟩:=a0G hi
  have hia:=a1v hc hx
  have w1:IntKind.wrap .i64 (((i:Nat):Int) + 1) = ((i + 1:Nat):Int):=w64 _ (by omega) (by omega)
  obtain ⟨S1,hS1⟩:∃ S1,S1 = S ++ [Ob.cells 0 [.int .i64 x.1, .int .i64 x.2] 0]:=⟨_,rfl⟩
  have hN1:Now P V A O B k g lets ar S1:=by rw [hS1]; exact hN.mono a0B
  have hk1:O5 n0 S S1:=by rw [hS1]; exact O5.app hn0
  have hl1:S.length ≤ S1.length:=by rw [hS1]; simp
  have go:∀ R,(bif decide (64 < IntKind.wrap .i64 (k.depth + x.2)) then some ⟨.ret (.bool true),none,S1⟩ else w5.F0 (.mp B 0 0) cv (((O3 o).length:Nat):Int) ((i + 1:Nat):Int) S1) = R→w5.F0 (.mp B 0 0) cv (((O3 o).length:Nat):Int) ((i:Nat):Int) S = R:=by
   intro R hR
   rw [w5.F0_e]
   refine (bt (O4 (by omega))).trans ?_
   refine (br hia).trans ?_
   refine (br (l2 _ _ _)).trans ?_
   refine (br (a1O _ _ _)).trans ?_
   rw [←hS1]
   refine (rdM hN1.hB (k:=8) rfl).trans ?_
   refine (br (pair_at1 _)).trans ?_
   refine (br (by rw [hS1]; exact a3J _ _ _)).trans ?_
   refine (br (aI _)).trans ?_
   refine (br (aI _)).trans ?_
   rw [w1]
   exact hR
  by_cases hb:64 < IntKind.wrap .i64 (k.depth + x.2)
  ·refine ⟨S1,?_,hk1⟩
   refine go _ ?_
   refine (bt (O4 hb)).trans ?_
   rw [hd,List.any_cons,O4 hb]
   rfl
  ·obtain ⟨S',e1,e2⟩:=ih (i + 1) S1 (by omega) (by omega) hN1
   refine ⟨S',?_,hk1.trans e2⟩
   refine go _ ?_
   refine (bf (O0 hb)).trans ?_
   rw [e1,hd,List.any_cons,O0 hb,Bool.false_or]
theorem deep_spec (hN:Now P V A O B k g lets ar S) {o:OpA} {lv:AV} (hl:W4 o.l lv):O1 ap 63 [.mp B 0 0, .ip (oc o lv)] S = some (.ret (.bool (a1w k o)),S):=by
 rw [w5.call]
 suffices hb:∃ S',w5.b (.mp B 0 0) (.ip (oc o lv)) S = some ⟨.ret (.bool (a1w k o)),none,S'⟩∧O5 S.length S S' by
  obtain ⟨S',k1,k2⟩:=hb
  exact O7 k1 rfl rfl k2
 rw [w5.b_eq]
 unfold a1w
 by_cases h:o.k = 11
 ·rw [if_pos h]
  refine ⟨S,?_,O5.refl _ _⟩
  refine (rdO (k:=0) rfl).trans ?_
  refine (br (aI _)).trans ?_
  refine (bt (O4 h)).trans ?_
  refine (rdM hN.hB (k:=8) rfl).trans ?_
  exact br (aI _)
 ·rw [if_neg h]
  obtain ⟨cv,hc,hcv⟩:=a0H hl S
  obtain ⟨S',e1,e2⟩:=deep_loop hcv (n0:=S.length) (O3 o).length 0 S (by omega) (Nat.le_refl _) hN
  refine ⟨S',?_,e2⟩
  refine (rdO (k:=0) rfl).trans ?_
  refine (br (aI _)).trans ?_
  refine (bf (O0 h)).trans ?_
  refine (cr hc).trans ?_
  refine (br hcv.len).trans ?_
  exact e1
def owned (ar:List Ar) (x:Int):Bool:=(ar.getD x.toNat default).owned
def ownB (num:Int) (n:Nat) (ar:List Ar) (all:List (Int × Int)) (i:Nat) (x:Int × Int):Bool:=
 !(decide (x.1 ≤ num) || (decide ((n:Int) ≤ x.1) || (owned ar x.1 || (decide (0 < i) && decide ((all.getD 0 (0,0)).1 = x.1)))))
def a27 (num:Int) (n:Nat) (ar:List Ar) (all:List (Int × Int)):Nat→List (Int × Int)→Bool
 | _,[]=>true
 | i,x :: r=>ownB num n ar all i x && a27 num n ar all (i + 1) r
def a15 (k:Bk) (p:PrA) (ar:List Ar) (o:OpA):Bool:=a27 k.num p.blocks.length ar (O3 o) 0 (O3 o)
theorem a4q (l:List Ar):(P4 l).length = l.length * 5:=by
 induction l with
 | nil=>rfl
 | cons x r ih=>simp only [P4,List.length_append,arc,List.length_cons,List.length_nil,ih]; omega
theorem ar_app (a b:List Ar):P4 (a ++ b) = P4 a ++ P4 b:=by
 induction a with
 | nil=>rfl
 | cons x r ih=>simp only [List.cons_append,P4,ih,List.append_assoc]
theorem ar_split {l:List Ar} {i:Nat} (hi:i < l.length):l = l.take i ++ l.getD i default :: l.drop (i + 1):=by
 have:l.getD i default = l[i]:=by rw [List.getD_eq_getElem?_getD,List.getElem?_eq_getElem hi]; rfl
 rw [this,←List.drop_eq_getElem_cons hi,List.take_append_drop]
theorem ar_cell {l:List Ar} {i j:Nat} (hi:i < l.length) {c:AV} (hj:(arc (l.getD i default))[j]? = some c):(P4 l)[i * 5 + j]? = some c:=by
 have hj5:j < 5:=(List.getElem?_eq_some_iff.1 hj).1
 have ht:(P4 (l.take i)).length = i * 5:=by rw [a4q,List.length_take]; congr 1; omega
 have hsp:P4 l = P4 (l.take i) ++ P4 (l.getD i default :: l.drop (i + 1)):=by rw [←ar_app,←ar_split hi]
 rw [hsp,←ht,List.getElem?_append_right (by omega),Nat.add_sub_cancel_left]
 simp only [P4]
 rw [List.getElem?_append_left (by simpa [arc] using hj5)]
 exact hj
theorem ar_ptr {l:List Ar} {i:Nat} (hi:i < l.length):ia 5 (.ms A 0 0 l.length 5) (.int .i64 ((i:Nat):Int)) = some (.mp A 0 (i * 5)):=by
 simp only [ia,if_true,P9 hi,Option.bind_some,Nat.zero_add]
theorem own_loop {o:OpA} {cv:AV} (hc:a19 (O3 o) cv) (har:ar.length = p.blocks.length) (hnum:0 ≤ k.num) {n0:Nat}:∀ (m i:Nat) (S:Sto),i + m = (O3 o).length→n0 ≤ S.length→P + 1 ≤ S.length→Prg p P tx cd sx bl S→Now P V A O B k g lets ar S →
  ∃ S',l9.F0 (.mp B 0 0) cv cv (((O3 o).length:Nat):Int) ((i:Nat):Int) S = some ⟨.ret (.bool (a27 k.num p.blocks.length ar (O3 o) i ((O3 o).drop i))),none,S'⟩∧O5 n0 S S':=by
 have hbl:=W9 o
 intro m
 induction m with
 | zero=>
  intro i S him hn0 hPl H hN
  have hi:i = (O3 o).length:=by omega
  subst hi
  refine ⟨S,?_,O5.refl _ _⟩
  rw [l9.F0_e,List.drop_length]
  exact bf (O0 (by omega))
 | succ m ih=>
  intro i S him hn0 hPl H hN
  have hi:i < (O3 o).length:=by omega
  obtain ⟨x,hx,hd⟩:=a0G hi
  have hia:=a1v hc hx
  have w1:IntKind.wrap .i64 (((i:Nat):Int) + 1) = ((i + 1:Nat):Int):=w64 _ (by omega) (by omega)
  obtain ⟨S1,hS1⟩:∃ S1,S1 = S ++ [Ob.cells 0 [.int .i64 x.1, .int .i64 x.2] 0]:=⟨_,rfl⟩
  have H1:Prg p P tx cd sx bl S1:=by rw [hS1]; exact H.mono (O5.app hPl)
  have hN1:Now P V A O B k g lets ar S1:=by rw [hS1]; exact hN.mono a0B
  have hk1:O5 n0 S S1:=by rw [hS1]; exact O5.app hn0
  have hl1:S.length ≤ S1.length:=by rw [hS1]; simp
  have hp0:ld false 1 S1 (.mp S.length 0 0) = some (.int .i64 x.1):=by rw [hS1]; exact a39 _ _ _
  have out:∀ b,b = !ownB k.num p.blocks.length ar (O3 o) i x→∃ S',l9.F3 (.mp B 0 0) cv cv (((O3 o).length:Nat):Int) ((i:Nat):Int) b S1 = some ⟨.ret (.bool (a27 k.num p.blocks.length ar (O3 o) i ((O3 o).drop i))),none,S'⟩∧O5 n0 S1 S':=by
   intro b hb
   rw [l9.F3_e,hd,w1]
   cases hob:ownB k.num p.blocks.length ar (O3 o) i x with
   | false=>
    rw [hob] at hb
    subst hb
    exact ⟨S1,(bt rfl).trans (by simp only [a27,hob,Bool.false_and]),O5.refl _ _⟩
   | true=>
    rw [hob] at hb
    subst hb
    obtain ⟨S',e1,e2⟩:=ih (i + 1) S1 (by omega) (by omega) (by omega) H1 hN1
    exact ⟨S',(bf rfl).trans (by rw [e1]; simp only [a27,hob,Bool.true_and]),e2⟩
  have hz:∃ y,(O3 o)[0]? = some y:=⟨_,List.getElem?_eq_getElem (by omega)⟩
  obtain ⟨y,hy⟩:=hz
  have hy0:(O3 o).getD 0 (0,0) = y:=by rw [List.getD_eq_getElem?_getD,hy]; rfl
  have hia0:=a1v hc hy
  rw [l9.F0_e]
  refine via (bt (O4 (by omega))) ?_
  refine via (br hia) ?_
  refine via (br (l2 _ _ _)) ?_
  refine via (br (a1O _ _ _)) ?_
  rw [←hS1]
  refine via (br (a0r _)) ?_
  refine via (br hp0) ?_
  refine via (rdM hN1.hB (k:=1) rfl) ?_
  refine via (br (aI _)) ?_
  refine via (br (aI _)) ?_
  have fin:∀ b,b = (!ownB k.num p.blocks.length ar (O3 o) i x)→∃ S',l9.F3 (.mp B 0 0) cv cv (((O3 o).length:Nat):Int) ((i:Nat):Int) b S1 = some ⟨.ret (.bool (a27 k.num p.blocks.length ar (O3 o) i ((O3 o).drop i))),none,S'⟩∧O5 n0 S S':=fun b hb=>by
   obtain ⟨S',e1,e2⟩:=out b hb
   exact ⟨S',e1,hk1.trans e2⟩
  by_cases h1:x.1 ≤ k.num
  ·refine via (bt (O4 h1)) ?_
   exact fin true (by simp [ownB,h1])
  ·refine via (bf (O0 h1)) ?_
   refine via (br (a0r _)) ?_
   refine via (br hp0) ?_
   refine via (rdM hN1.hB (k:=0) rfl) ?_
   refine via (rdM hN1.hV (k:=0) rfl) ?_
   refine via (rdM H1.hP (k:=3) rfl) ?_
   refine via (br H1.hB.1) ?_
   refine via (br (aI _)) ?_
   by_cases h2:((p.blocks.length:Nat):Int) ≤ x.1
   ·refine via (bt (O4 h2)) ?_
    exact fin true (by simp [ownB,h2])
   ·refine via (bf (O0 h2)) ?_
    refine via (rdM hN1.hB (k:=0) rfl) ?_
    refine via (rdM hN1.hV (k:=1) rfl) ?_
    refine via (br (a0r _)) ?_
    refine via (br hp0) ?_
    obtain ⟨w,hw⟩:∃ w:Nat,x.1 = (w:Int):=⟨x.1.toNat,by omega⟩
    have hwl:w < ar.length:=by omega
    have htn:x.1.toNat = w:=by omega
    refine via (br (show ia 5 (.ms A 0 0 ar.length 5) (.int .i64 x.1) = some (.mp A 0 (w * 5)) by rw [hw]; exact ar_ptr hwl)) ?_
    refine via (br (show fa 0 1 (.mp A 0 (w * 5)) = some (.mp A 0 (w * 5 + 0)) from rfl)) ?_
    refine via (br (O8 hN1.hA (ar_cell hwl (j:=0) rfl))) ?_
    refine via (br (aB _)) ?_
    cases how:(ar.getD w default).owned with
    | true=>
     refine via (bt rfl) ?_
     exact fin true (by simp only [ownB,owned,htn,how,Bool.true_or,Bool.or_true,Bool.not_true,Bool.not_false])
    | false=>
     refine via (bf rfl) ?_
     have e2:ownB k.num p.blocks.length ar (O3 o) i x = !(decide (0 < i) && decide (y.1 = x.1)):=by
      unfold ownB owned
      rw [hy0,htn,how,O0 h1,O0 h2]
      simp only [Bool.false_or]
     by_cases h0:(0:Int) < ((i:Nat):Int)
     ·refine via (bt (O4 h0)) ?_
      refine via (br hia0) ?_
      refine via (br (show a03 2 1 (.ip [.int .i64 y.1, .int .i64 y.2]) (.int .i64 0) = some (.ip [.int .i64 y.1]) from rfl)) ?_
      refine via (br (l1 _ _)) ?_
      refine via (br (a0r _)) ?_
      refine via (br hp0) ?_
      refine via (br (aI _)) ?_
      refine via (br (aI _)) ?_
      exact fin _ (by rw [e2,Bool.not_not,O4 (show 0 < i by omega),Bool.true_and])
     ·refine via (bf (O0 h0)) ?_
      exact fin false (by rw [e2,Bool.not_not,O0 (show ¬ 0 < i by omega),Bool.false_and])
theorem owns_spec (H:Prg p P tx cd sx bl S) (hN:Now P V A O B k g lets ar S) (har:ar.length = p.blocks.length) (hnum:0 ≤ k.num) {o:OpA} {lv:AV} (hl:W4 o.l lv):O1 ap 62 [.mp B 0 0, .ip (oc o lv)] S = some (.ret (.bool (a15 k p ar o)),S):=by
 have hPl:=(List.getElem?_eq_some_iff.1 H.hP).1
 rw [l9.call]
 suffices hb:∃ S',l9.b (.mp B 0 0) (.ip (oc o lv)) S = some ⟨.ret (.bool (a15 k p ar o)),none,S'⟩∧O5 S.length S S' by
  obtain ⟨S',k1,k2⟩:=hb
  exact O7 k1 rfl rfl k2
 obtain ⟨cv,hc,hcv⟩:=a0H hl S
 rw [l9.b_eq]
 refine via (cr hc) ?_
 refine via (br hcv.len) ?_
 exact own_loop hcv har hnum (n0:=S.length) (O3 o).length 0 S (by omega) (Nat.le_refl _) hPl H hN
abbrev wr (x:Int):Int:=IntKind.wrap .i64 x
def X9 (k:Bk) (lets:List Int):Int:=wr (wr (k.inn.nest + ((lets.length:Nat):Int)) - 1)
def nth:Fo→Nat→Fo
 | .nil,_ => .nil
 | .cons a b c d _,0 => .cons a b c d .nil
 | .cons _ _ _ _ r,i + 1=>nth r i
noncomputable def Q1 (p:PrA) (k:Bk) (lets:List Int) (i:Nat) (o:OpA):Bool:=
 if o.k = 3 then decide (wr (X9 k lets + 1) ≤ 63)
 else if o.k = 7 then decide ((((look (nth p.statics o.a.toNat)).2.1:Nat):Int) ≤ wr (64 - X9 k lets))
 else if o.k = 4∨o.k = 5 then !(!decide (k.opened = wr (((i:Nat):Int) - 1)) || (decide (i = 0) || (!decide (k.name = ⟨#[]⟩) && !Z6 k.name (p.texts.getD o.a.toNat ⟨#[]⟩))))
 else if o.k = 6 then decide (1 < lets.length) && decide (Q2 lets = 0)
 else if o.k = 12 then decide (o.a ≤ Q2 lets)
 else true
theorem nth_row:∀ (ts:Fo) (row:List AV) (i:Nat),Row ts row→i < ts.len→(i + 1) * 4 ≤ row.length∧∀ r,Row (nth ts i) (row.drop (i * 4) ++ r)∧Row (nth ts i) (row.drop (i * 4)):=by
 intro ts
 induction ts with
 | nil=>intro row i _ h; simp [Fo.len] at h
 | cons tag text ats kids rest ihk ihr=>
  rintro row i ⟨a,kd,r0,rfl,h2,h3,h4⟩ hi
  cases i with
  | zero=>
   refine ⟨by simp,fun r=>⟨⟨a,kd,r0 ++ r,by simp,h2,h3,trivial⟩,⟨a,kd,r0,by simp,h2,h3,trivial⟩⟩⟩
  | succ i=>
   obtain ⟨k1,k2⟩:=ihr r0 i h4 (by simp only [Fo.len] at hi; omega)
   refine ⟨by simp only [List.length_append,List.length_cons,List.length_nil]; omega,fun r=>?_⟩
   have:((AV.str tag :: AV.str text :: a :: kd :: r0).drop ((i + 1) * 4)) = r0.drop (i * 4):=by
    rw [show (i + 1) * 4 = i * 4 + 4 by omega]
    rfl
   rw [this]
   exact k2 r
theorem a28:∀ (ts:Fo) (i:Nat),i < ts.len→(nth ts i).len = 1∧(nth ts i).sz ≤ ts.sz:=by
 intro ts
 induction ts with
 | nil=>intro i h; simp [Fo.len] at h
 | cons tag text ats kids rest ihk ihr=>
  intro i hi
  cases i with
  | zero=>exact ⟨rfl,by simp only [nth,Fo.sz]; omega⟩
  | succ i=>
   obtain ⟨a,b⟩:=ihr i (by simp only [Fo.len] at hi; omega)
   exact ⟨a,by simp only [nth,Fo.sz]; omega⟩
theorem one_tree {ts:Fo} {v:AV} (h:FoM ts v) {i:Nat} (hi:i < ts.len) (hs:ts.sz ≤ 1050000) (hm:∀ row n m,v = .is row n (.cut m)→n ≤ m):∃ w,a06 4 v (some (.int .i64 ((i:Nat):Int))) (some (.int .i64 ((i + 1:Nat):Int))) = some w∧FoV (nth ts i) w:=by
 rcases h with ⟨h,_⟩ | ⟨row,tok,rfl,hl,hr⟩
 ·omega
 ·have hmost:ts.len ≤ tok.most ts.len:=by
   cases tok with
   | cut m=>exact hm _ _ _ rfl
   | _=>exact Nat.le_refl _
  have h1:bnd ts.len (tok.most ts.len) (some (.int .i64 ((i + 1:Nat):Int))) = some (i + 1):=by
   unfold bnd
   simp only
   rw [if_pos (by omega)]
   simp
  have h2:bnd 0 (i + 1) (some (.int .i64 ((i:Nat):Int))) = some i:=by
   unfold bnd
   simp only
   rw [if_pos (by omega)]
   simp
  refine ⟨.is (row.drop (i * 4)) (i + 1 - i) (tok.part ts.len (i + 1) i),?_,?_⟩
  ·simp only [a06,h1,h2,Option.bind_some,hl,if_true]
  ·have:=(nth_row ts row i hr hi).2 []
   refine .inr ⟨row.drop (i * 4),tok.part ts.len (i + 1) i,?_,this.2⟩
   rw [(a28 ts i hi).1,Nat.add_sub_cancel_left]
theorem shape_spec (H:Prg p P tx cd sx bl S) (hs:W2 p) (hN:Now P V A O B k g lets ar S) (hl0:0 < lets.length) (hl1:lets.length ≤ 1050000) (hm:∀ row n m,sx = .is row n (.cut m)→n ≤ m) {o:OpA} {lv:AV} (hl:W4 o.l lv) (i:Nat)
  (hk7:o.k = 7→0 ≤ o.a∧o.a < ((p.statics.len:Nat):Int)) (hk4:o.k = 4∨o.k = 5→0 ≤ o.a∧o.a < ((p.texts.length:Nat):Int)) :
  O1 ap 61 [.mp B 0 0, .int .i64 ((i:Nat):Int), .ip (oc o lv)] S = some (.ret (.bool (Q1 p k lets i o)),S):=by
 rw [j4.call]
 refine O7 ?_ rfl rfl (O5.refl _ _)
 rw [j4.b_eq]
 have hlen:P3 (.ms O g 0 lets.length 1) = some lets.length:=rfl
 refine (rdI hN.hB (j:=3) (k:=3) rfl).trans ?_
 refine (rdM hN.hB (k:=9) rfl).trans ?_
 refine (br hlen).trans ?_
 refine (br (aI _)).trans ?_
 refine (rdO (k:=0) rfl).trans ?_
 refine (br (aI _)).trans ?_
 unfold Q1
 by_cases h3:o.k = 3
 ·rw [if_pos h3]
  exact bt (O4 h3)
 rw [if_neg h3]
 refine (bf (O0 h3)).trans ?_
 refine (br (aI _)).trans ?_
 by_cases h7:o.k = 7
 ·rw [if_pos h7]
  refine (bt (O4 h7)).trans ?_
  refine (rdM hN.hB (k:=0) rfl).trans ?_
  refine (rdM hN.hV (k:=0) rfl).trans ?_
  refine (rdM H.hP (k:=2) rfl).trans ?_
  refine (rdO (k:=1) rfl).trans ?_
  refine (rdO (k:=1) rfl).trans ?_
  refine (br (aI _)).trans ?_
  obtain ⟨q1,q2⟩:=hk7 h7
  obtain ⟨w,hw⟩:∃ w:Nat,o.a = (w:Int):=⟨o.a.toNat,by omega⟩
  have hsl:=a1b p.statics
  have hss:=hs.s
  have w1:IntKind.wrap .i64 (((w:Nat):Int) + 1) = ((w + 1:Nat):Int):=w64 _ (by omega) (by omega)
  obtain ⟨t,c1,c2⟩:=one_tree H.hS (i:=w) (by omega) hs.s hm
  rw [hw,w1]
  refine (br c1).trans ?_
  refine (cr (depth_spec c2 (by have:=(a28 p.statics w (by omega)).2; omega) S)).trans ?_
  refine (it rfl).trans ?_
  refine (br (aI _)).trans ?_
  rfl
 rw [if_neg h7]
 refine (bf (O0 h7)).trans ?_
 refine (br (aI _)).trans ?_
 have tail:∀ b,j4.I8 b S = some ⟨.ret (.bool (!b)),none,S⟩:=fun b=>by
  rw [j4.I8_e,j4.I9_e]
  cases b <;> rfl
 have body:∀ b,b = decide (o.k = 4∨o.k = 5)→j4.M4 (.mp B 0 0) ((i:Nat):Int) (.ip (oc o lv)) (.int .i64 o.k) b S = some ⟨.ret (.bool (if o.k = 4∨o.k = 5 then !(!decide (k.opened = wr (((i:Nat):Int) - 1)) || (decide (i = 0) || (!decide (k.name = ⟨#[]⟩) && !Z6 k.name (p.texts.getD o.a.toNat ⟨#[]⟩)))) else if o.k = 6 then decide (1 < lets.length) && decide (Q2 lets = 0) else if o.k = 12 then decide (o.a ≤ Q2 lets) else true)),none,S⟩:=by
  intro b hb
  rw [j4.M4_e]
  by_cases h4:o.k = 4∨o.k = 5
  ·rw [O4 h4] at hb
   subst hb
   rw [if_pos h4]
   obtain ⟨q1,q2⟩:=hk4 h4
   obtain ⟨w,hw⟩:∃ w:Nat,o.a = (w:Int):=⟨o.a.toNat,by omega⟩
   obtain ⟨cs,hia,rfl⟩:=H.hT.2.2.2 w (by omega)
   refine (bt rfl).trans ?_
   refine (rdM hN.hB (k:=0) rfl).trans ?_
   refine (rdM hN.hV (k:=0) rfl).trans ?_
   refine (rdM H.hP (k:=0) rfl).trans ?_
   refine (rdO (k:=1) rfl).trans ?_
   rw [hw]
   refine (br hia).trans ?_
   refine (br (l1 _ _)).trans ?_
   refine (rdM hN.hB (k:=10) rfl).trans ?_
   refine (br (aI _)).trans ?_
   rw [Int.toNat_natCast]
   by_cases e1:k.opened = IntKind.wrap .i64 (((i:Nat):Int) - 1)
   ·refine (bf (by rw [O4 e1]; rfl)).trans ?_
    rw [show decide (k.opened = wr (((i:Nat):Int) - 1)) = true from O4 e1]
    by_cases e2:i = 0
    ·refine (bt (O4 (by omega))).trans ?_
     rw [tail,O4 e2]
     rfl
    ·refine (bf (O0 (by omega))).trans ?_
     rw [O0 e2]
     refine (rdM hN.hB (k:=11) rfl).trans ?_
     refine (br (aS _)).trans ?_
     by_cases e3:k.name = ⟨#[]⟩
     ·refine (bf (by rw [O4 e3]; rfl)).trans ?_
      rw [tail,O4 e3]
      rfl
     ·refine (bt (by rw [O0 e3]; rfl)).trans ?_
      refine (rdM hN.hB (k:=11) rfl).trans ?_
      refine (br (aS _)).trans ?_
      refine (br (aS _)).trans ?_
      rw [tail,O0 e3]
      rfl
   ·refine (bt (by rw [O0 e1]; rfl)).trans ?_
    rw [tail,show decide (k.opened = wr (((i:Nat):Int) - 1)) = false from O0 e1]
    rfl
  ·rw [O0 h4] at hb
   subst hb
   rw [if_neg h4]
   refine (bf rfl).trans ?_
   refine (br (aI _)).trans ?_
   by_cases h6:o.k = 6
   ·rw [if_pos h6]
    refine (bt (O4 h6)).trans ?_
    refine (rdM hN.hB (k:=9) rfl).trans ?_
    refine (br hlen).trans ?_
    by_cases hl:1 < lets.length
    ·refine (bt (O4 (by omega))).trans ?_
     refine (cr (a0E hN hl0 hl1)).trans ?_
     refine (br (show O2 (.mp O g (lets.length - 1)) = some _ from rfl)).trans ?_
     refine (br (a1M hN hl0)).trans ?_
     refine (br (aI _)).trans ?_
     rw [O4 hl,Bool.true_and]
    ·refine (bf (O0 (by omega))).trans ?_
     rw [O0 hl,Bool.false_and]
   ·rw [if_neg h6]
    refine (bf (O0 h6)).trans ?_
    refine (br (aI _)).trans ?_
    by_cases h12:o.k = 12
    ·rw [if_pos h12]
     refine (bt (O4 h12)).trans ?_
     refine (rdO (k:=1) rfl).trans ?_
     refine (cr (a0E hN hl0 hl1)).trans ?_
     refine (it rfl).trans ?_
     refine (br (show O2 (.mp O g (lets.length - 1)) = some _ from rfl)).trans ?_
     refine (br (a1M hN hl0)).trans ?_
     refine (br (aI _)).trans ?_
     exact br (aI _)
    ·rw [if_neg h12]
     refine (bf (O0 h12)).trans ?_
     rw [j4.I9_e]
 by_cases h4:o.k = 4
 ·refine (bt (O4 h4)).trans ?_
  exact body _ (by simp [h4])
 ·refine (bf (O0 h4)).trans ?_
  refine (br (aI _)).trans ?_
  exact body _ (by simp [h4])
end
theorem a3T {st:Sto} {id g k:Nat} {cs:List AV} {x:AV} (h:st[id]? = some (.cells g cs 0)) (hk:k < cs.length) (hx:x.isCell = true) (hc:x.cells = [x]):sto 1 st (.mp id g k) x = some (st.set id (.cells g (cs.set k x) 0)):=by
 have h1:k + [x].length ≤ cs.length:=hk
 have h2:([x]).all AV.isCell = true:=by simp [hx]
 have h3:splice cs k [x] = cs.set k x:=by
  unfold splice
  rw [List.set_eq_take_append_cons_drop,if_pos hk]
  rfl
 unfold sto
 rw [hc,if_pos (show [x].length = 1 from rfl)]
 simp only [W6,h,h1,h2,h3,Nat.zero_le,true_and,and_self,if_true]
theorem wrM {B k:Nat} {S:Sto} {cs:List AV} {x:AV} (h:S[B]? = some (.cells 0 cs 0)) (hk:k < cs.length) (hx:x.isCell = true) (hc:x.cells = [x]) {F:Sto→Option Res}:((O2 (.mp B 0 0)).bind fun v1=>(fa k 1 v1).bind fun v2=>(sto 1 S v2 x).bind fun s=>F s) = F (S.set B (.cells 0 (cs.set k x) 0)):=by
 have hn:O2 (.mp B 0 0) = some (.mp B 0 0):=rfl
 have hf:fa k 1 (.mp B 0 0) = some (.mp B 0 (0 + k)):=rfl
 rw [hn,Option.bind_some,hf,Option.bind_some,U8 h (by rw [Nat.zero_add]; exact hk) hx hc,Option.bind_some,Nat.zero_add]
theorem V1 {n m:Nat} {S S':Sto} (h:O5 m S S') (k:n ≤ m):O5 n S S':=⟨h.len,fun i hi=>h.at_ i (by omega)⟩
def a17 (k:Bk) (lets:List Int) (o:OpA) (m:Int):Ar:=⟨true,decide (o.k = 9),wr (k.depth + m),X9 k lets,if o.k = 9 then wr (k.inn.loops + 1) else k.inn.loops⟩
def a2u (k:Bk) (lets:List Int) (o:OpA):List Ar→List (Int × Int)→List Ar
 | ar,[]=>ar
 | ar,x :: r=>a2u k lets o (ar.set x.1.toNat (a17 k lets o x.2)) r
theorem a1R (k:Bk) (lets:List Int) (o:OpA):∀ (l:List (Int × Int)) (ar:List Ar),(a2u k lets o ar l).length = ar.length:=by
 intro l
 induction l with
 | nil=>intro ar; rfl
 | cons x r ih=>intro ar; simp only [a2u,ih,List.length_set]
theorem ar_set {l:List Ar} {w:Nat} (hw:w < l.length) (a:Ar):splice (P4 l) (w * 5) (arc a) = P4 (l.set w a):=by
 have ht:(P4 (l.take w)).length = w * 5:=by rw [a4q,List.length_take]; congr 1; omega
 have h5:(arc (l.getD w default)).length = 5:=rfl
 have ha5:(arc a).length = 5:=rfl
 have hsp:P4 l = P4 (l.take w) ++ (arc (l.getD w default) ++ P4 (l.drop (w + 1))):=by
  rw [show arc (l.getD w default) ++ P4 (l.drop (w + 1)) = P4 (l.getD w default :: l.drop (w + 1)) from rfl,←ar_app,←ar_split hw]
 have hset:l.set w a = l.take w ++ a :: l.drop (w + 1):=by rw [List.set_eq_take_append_cons_drop,if_pos hw]
 rw [hset,ar_app]
 unfold splice
 rw [hsp,←ht,List.take_left,ha5,List.drop_append,List.drop_append]
 have e1:(P4 (l.take w)).length + 5 - (P4 (l.take w)).length = 5:=by omega
 rw [e1,List.drop_of_length_le (by omega),List.drop_of_length_le (by rw [h5]; omega),h5]
 simp [P4]
theorem ar_sto {S:Sto} {A:Nat} {l:List Ar} (h:S[A]? = some (.cells 0 (P4 l) 0)) {w:Nat} (hw:w < l.length) (a:Ar):sto 5 S (.mp A 0 (w * 5)) (.agg (arc a)) = some (S.set A (.cells 0 (P4 (l.set w a)) 0)):=by
 have h1:w * 5 + (arc a).length ≤ (P4 l).length:=by rw [a4q]; show w * 5 + 5 ≤ _; omega
 have h2:(arc a).all AV.isCell = true:=rfl
 unfold sto
 rw [show (AV.agg (arc a)).cells = arc a from rfl,if_pos (show (arc a).length = 5 from rfl)]
 simp only [W6,h,h1,h2,Nat.zero_le,true_and,and_self,if_true,ar_set hw a]
theorem last_set {S:Sto} {o o':Ob}:(S ++ [o]).set S.length o' = S ++ [o']:=by
 rw [List.set_append_right _ _ (Nat.le_refl _),Nat.sub_self]
 rfl
theorem P6 {S:Sto} {o:Ob}:(S ++ [o])[S.length]? = some o:=by simp
section
variable {p:PrA} {P V A O B:Nat} {tx cd sx bl:AV} {S:Sto} {k:Bk} {g:Nat} {lets:List Int} {ar:List Ar}
theorem Now.setA (h:Now P V A O B k g lets ar S) {ar':List Ar} (hl:ar'.length = ar.length):Now P V A O B k g lets ar' (S.set A (.cells 0 (P4 ar') 0)):=by
 obtain ⟨junk,hO⟩:=h.hO
 have h1:=h.n1; have h2:=h.n2; have h3:=h.n3; have h4:=h.n4
 have hA:=(List.getElem?_eq_some_iff.1 h.hA).1
 exact ⟨by rw [List.getElem?_set_ne (by omega),hl]; exact h.hV,List.getElem?_set_self hA,by rw [List.getElem?_set_ne (by omega)]; exact h.hB,⟨junk,by rw [List.getElem?_set_ne (by omega)]; exact hO⟩,h1,h2,h3,h4⟩
theorem Now.setB (h:Now P V A O B k g lets ar S) {k':Bk} {cs:List AV} (hc:cs = T0 V O g lets k'):Now P V A O B k' g lets ar (S.set B (.cells 0 cs 0)):=by
 obtain ⟨junk,hO⟩:=h.hO
 have h1:=h.n1; have h2:=h.n2; have h3:=h.n3; have h4:=h.n4
 have hB:=(List.getElem?_eq_some_iff.1 h.hB).1
 exact ⟨by rw [List.getElem?_set_ne (by omega)]; exact h.hV,by rw [List.getElem?_set_ne (by omega)]; exact h.hA,by rw [List.getElem?_set_self hB,hc],⟨junk,by rw [List.getElem?_set_ne (by omega)]; exact hO⟩,h1,h2,h3,h4⟩
theorem Now.setO (h:Now P V A O B k g lets ar S) {g':Nat} {lets':List Int} {S':Sto} {cs junk:List AV} (hS':S'[O]? = some (.cells g' (O6 lets' ++ junk) 0)) (hk:∀ j,j ≠ O→S'[j]? = S[j]?) (hl:S'.length = S.length) (hc:cs = T0 V O g' lets' k):Now P V A O B k g' lets' ar (S'.set B (.cells 0 cs 0)):=by
 have h1:=h.n1; have h2:=h.n2; have h3:=h.n3; have h4:=h.n4
 have hB:=(List.getElem?_eq_some_iff.1 h.hB).1
 exact ⟨by rw [List.getElem?_set_ne (by omega),hk V (by omega)]; exact h.hV,by rw [List.getElem?_set_ne (by omega),hk A (by omega)]; exact h.hA,by rw [List.getElem?_set_self (by omega),hc],⟨junk,by rw [List.getElem?_set_ne (by omega)]; exact hS'⟩,h1,h2,h3,h4⟩
theorem Now.setOv (h:Now P V A O B k g lets ar S) {lets':List Int} {junk:List AV} (hl:lets'.length = lets.length):Now P V A O B k g lets' ar (S.set O (.cells g (O6 lets' ++ junk) 0)):=by
 obtain ⟨junk0,hO⟩:=h.hO
 have h1:=h.n1; have h2:=h.n2; have h3:=h.n3; have h4:=h.n4
 have hOl:=(List.getElem?_eq_some_iff.1 hO).1
 exact ⟨by rw [List.getElem?_set_ne (by omega)]; exact h.hV,by rw [List.getElem?_set_ne (by omega)]; exact h.hA,by rw [List.getElem?_set_ne (by omega)]; have:=h.hB; unfold T0 at this ⊢; rw [hl]; exact this,⟨junk,List.getElem?_set_self hOl⟩,h1,h2,h3,h4⟩
theorem done_loop {o:OpA} {lv:AV} {cv:AV} (hc:a19 (O3 o) cv) (w:Int) (hll:lets.length ≤ 1050000):∀ (m i:Nat) (S:Sto) (ar:List Ar),i + m = (O3 o).length→V < S.length→Now P V A O B k g lets ar S→(∀ x ∈ (O3 o).drop i,0 ≤ x.1∧x.1 < ((ar.length:Nat):Int)) →
  ∃ S',i6.N7 (.mp B 0 0) w (.ip (oc o lv)) cv (((O3 o).length:Nat):Int) ((i:Nat):Int) S = i6.N7 (.mp B 0 0) w (.ip (oc o lv)) cv (((O3 o).length:Nat):Int) (((O3 o).length:Nat):Int) S'∧Now P V A O B k g lets (a2u k lets o ar ((O3 o).drop i)) S'∧O5 (V + 1) S S':=by
 have hbl:=W9 o
 intro m
 induction m with
 | zero=>
  intro i S ar him hV hN hx
  have hi:i = (O3 o).length:=by omega
  subst hi
  exact ⟨S,rfl,by rw [List.drop_length]; exact hN,O5.refl _ _⟩
 | succ m ih=>
  intro i S ar him hV hN hxs
  have hi:i < (O3 o).length:=by omega
  obtain ⟨x,hx,hd⟩:=a0G hi
  have hia:=a1v hc hx
  have w1:IntKind.wrap .i64 (((i:Nat):Int) + 1) = ((i + 1:Nat):Int):=w64 _ (by omega) (by omega)
  obtain ⟨q1,q2⟩:=hxs x (by rw [hd]; simp)
  obtain ⟨y,hy⟩:∃ y:Nat,x.1 = (y:Int):=⟨x.1.toNat,by omega⟩
  have hyl:y < ar.length:=by omega
  have hyt:x.1.toNat = y:=by omega
  obtain ⟨S1,hS1⟩:∃ S1,S1 = S ++ [Ob.cells 0 [.int .i64 x.1, .int .i64 x.2] 0]:=⟨_,rfl⟩
  have hN1:Now P V A O B k g lets ar S1:=by rw [hS1]; exact hN.mono a0B
  have hl1:S1.length = S.length + 1:=by rw [hS1]; simp
  have hp1:ld false 1 S1 (.mp S.length 0 1) = some (.int .i64 x.2):=by rw [hS1]; exact a3J _ _ _
  have z5:[AV.bool false, .bool false, .int .i64 0, .int .i64 0, .int .i64 0] = arc ⟨false,false,0,0,0⟩:=rfl
  obtain ⟨Z,hZ⟩:∃ Z,Z = S1 ++ [Ob.cells 0 (arc ⟨false,false,0,0,0⟩) 0]:=⟨_,rfl⟩
  have hNZ:Now P V A O B k g lets ar Z:=by rw [hZ]; exact hN1.mono a0B
  have hpZ:ld false 1 Z (.mp S.length 0 1) = some (.int .i64 x.2):=by rw [hZ,hS1]; exact O8 (n:=1) (g:=0) (fz:=0) (cs:=[.int .i64 x.1, .int .i64 x.2]) (P8 (by simp)) rfl
  have bget:∀ {T:Sto} {j:Nat} {c:AV},Now P V A O B k g lets ar T→(T0 V O g lets k)[j]? = some c→ld false 1 T (.mp B 0 (0 + j)) = some c:=fun hT hj=>O8 hT.hB (by rw [Nat.zero_add]; exact hj)
  have bget2:∀ {T:Sto} {j:Nat} {c:AV},Now P V A O B k g lets ar T→(T0 V O g lets k)[3 + j]? = some c→ld false 1 T (.mp B 0 (0 + 3 + j)) = some c:=fun hT hj=>O8 hT.hB (by rw [Nat.zero_add]; exact hj)
  have hlen:P3 (.ms O g 0 lets.length 1) = some lets.length:=rfl
  let a1:Ar:=⟨true,false,wr (k.depth + x.2),X9 k lets,k.inn.loops⟩
  obtain ⟨T,hT⟩:∃ T,T = S1 ++ [Ob.cells 0 (arc (a17 k lets o x.2)) 0]:=⟨_,rfl⟩
  have hNT:Now P V A O B k g lets ar T:=by rw [hT]; exact hN1.mono a0B
  have hagg:(X3 (O9 (fun i=>([(0,1),(1,1),(2,1),(3,1),(4,1)]:List (Nat × Nat))[i]?) (arc ⟨false,false,0,0,0⟩) [(0,(.bool true)),(2,(.int .i64 (wr (k.depth + x.2)))),(3,(.int .i64 (X9 k lets))),(4, .int .i64 k.inn.loops)])) = some (.agg (arc ⟨true,false,wr (k.depth + x.2),X9 k lets,k.inn.loops⟩)):=rfl
  have hst:sto 5 Z (.mp S1.length 0 0) (.agg (arc ⟨true,false,wr (k.depth + x.2),X9 k lets,k.inn.loops⟩)) = some (S1 ++ [Ob.cells 0 (arc ⟨true,false,wr (k.depth + x.2),X9 k lets,k.inn.loops⟩) 0]):=by rw [hZ]; exact a3P (cs:=arc ⟨false,false,0,0,0⟩) (cs':=arc ⟨true,false,wr (k.depth + x.2),X9 k lets,k.inn.loops⟩) rfl rfl rfl
  have hput:i6.L3 (.mp B 0 0) w (.ip (oc o lv)) S.length S1.length cv (((O3 o).length:Nat):Int) ((i:Nat):Int) T = i6.N7 (.mp B 0 0) w (.ip (oc o lv)) cv (((O3 o).length:Nat):Int) ((i + 1:Nat):Int) (T.set A (.cells 0 (P4 (ar.set y (a17 k lets o x.2))) 0)):=by
   rw [i6.L3_e]
   refine (rdM hNT.hB (k:=0) rfl).trans ?_
   refine (rdM hNT.hV (k:=1) rfl).trans ?_
   refine (br (a0r _)).trans ?_
   refine (br (show ld false 1 T (.mp S.length 0 0) = some (.int .i64 x.1) by rw [hT,hS1]; exact O8 (n:=0) (g:=0) (fz:=0) (cs:=[.int .i64 x.1, .int .i64 x.2]) (P8 (by simp)) rfl)).trans ?_
   refine (br (show ld true 5 T (.mp S1.length 0 0) = some (.agg (arc (a17 k lets o x.2))) by rw [hT]; exact Z7 (g:=0) (fz:=0) P6 rfl)).trans ?_
   refine (br (show ia 5 (.ms A 0 0 ar.length 5) (.int .i64 x.1) = some (.mp A 0 (y * 5)) by rw [hy]; exact ar_ptr hyl)).trans ?_
   refine (br (ar_sto hNT.hA hyl _)).trans ?_
   rw [w1]
  obtain ⟨S',e1,e2,e3⟩:=ih (i + 1) (T.set A (.cells 0 (P4 (ar.set y (a17 k lets o x.2))) 0)) (ar.set y (a17 k lets o x.2)) (by omega) (by rw [List.length_set,hT]; simp; omega) (hNT.setA (by simp)) (fun z hz=>by
   rw [List.length_set]
   exact hxs z (by rw [hd]; exact List.mem_cons_of_mem _ hz))
  have hAV:=hN.n2
  refine ⟨S',?_,by rw [hd]; simp only [a2u]; rw [hyt]; exact e2,(O5.trans ?_ (O5.set (by omega))).trans e3⟩
  ·rw [←e1,←hput,i6.N7_e,z5]
   refine (bt (O4 (by omega))).trans ?_
   refine (br hia).trans ?_
   refine (br (l2 _ _ _)).trans ?_
   refine (br (a1O _ _ _)).trans ?_
   rw [←hS1,←hZ]
   refine (rdM hN1.hB (k:=8) rfl).trans ?_
   refine (br (pair_at1 _)).trans ?_
   refine (br hp1).trans ?_
   refine (br (aI _)).trans ?_
   refine (br (aI _)).trans ?_
   refine (rdI hN1.hB (j:=3) (k:=3) rfl).trans ?_
   refine (rdM hN1.hB (k:=9) rfl).trans ?_
   refine (br hlen).trans ?_
   refine (br (aI _)).trans ?_
   refine (rdI hN1.hB (j:=3) (k:=4) rfl).trans ?_
   refine (br hagg).trans ?_
   refine (br (bget2 hNZ rfl)).trans ?_
   refine (it rfl).trans ?_
   refine (br hlen).trans ?_
   refine (it rfl).trans ?_
   refine (br (bget hNZ rfl)).trans ?_
   refine (it rfl).trans ?_
   refine (br (bget2 hNZ rfl)).trans ?_
   refine (it rfl).trans ?_
   refine (br hpZ).trans ?_
   refine (it rfl).trans ?_
   refine (br (bget hNZ rfl)).trans ?_
   refine (it rfl).trans ?_
   refine (br hst).trans ?_
   refine (rdO (k:=0) rfl).trans ?_
   refine (br (aI _)).trans ?_
   by_cases h9:o.k = 9
   ·refine (bt (O4 h9)).trans ?_
    have s1:=U8 (st:=S1 ++ [Ob.cells 0 (arc ⟨true,false,wr (k.depth + x.2),X9 k lets,k.inn.loops⟩) 0]) (id:=S1.length) (k:=1) (x := .bool true) P6 (by show 1 < 5; omega) rfl rfl
    rw [last_set] at s1
    refine (br s1).trans ?_
    refine (br (O8 (n:=4) (g:=0) (fz:=0) P6 rfl)).trans ?_
    refine (br (aI _)).trans ?_
    have s2:=U8 (st:=S1 ++ [Ob.cells 0 ((arc ⟨true,false,wr (k.depth + x.2),X9 k lets,k.inn.loops⟩).set 1 (.bool true)) 0]) (id:=S1.length) (k:=4) (x := .int .i64 (IntKind.wrap .i64 (k.inn.loops + 1))) P6 (by show 4 < 5; omega) rfl rfl
    rw [last_set] at s2
    refine (br s2).trans ?_
    have:((arc ⟨true,false,wr (k.depth + x.2),X9 k lets,k.inn.loops⟩).set 1 (.bool true)).set 4 (.int .i64 (IntKind.wrap .i64 (k.inn.loops + 1))) = arc (a17 k lets o x.2):=by
     unfold a17
     rw [O4 h9,if_pos h9]
     rfl
    rw [this,←hT]
   ·refine (bf (O0 h9)).trans ?_
    have:arc ⟨true,false,wr (k.depth + x.2),X9 k lets,k.inn.loops⟩ = arc (a17 k lets o x.2):=by
     unfold a17
     rw [O0 h9,if_neg h9]
    rw [this,←hT]
  ·rw [hT,hS1,List.append_assoc]
   exact O5.app (by omega)
def setLast (l:List Int) (x:Int):List Int:=l.set (l.length - 1) x
def Q6 (p:PrA) (i:Nat) (o:OpA) (k:Bk) (lets:List Int):Bk × List Int:=
 if o.k = 3 then ({ k with opened:=((i:Nat):Int),name:=⟨#[]⟩ },lets ++ [0])
 else if o.k = 4∨o.k = 5 then ({ k with opened:=((i:Nat):Int),name:=p.texts.getD o.a.toNat ⟨#[]⟩ },lets)
 else if o.k = 6 then ({ k with first:=if lets.length = 2∧k.first < 0 then ((i:Nat):Int) else k.first },lets.dropLast)
 else if o.k = 11 then ({ k with depth:=wr (k.depth + 1) },setLast lets (wr (Q2 lets + 1)))
 else if o.k = 12 then ({ k with depth:=wr (k.depth - o.a) },setLast lets (wr (Q2 lets - o.a)))
 else (k,lets)
theorem hc_last {l:List Int} (hl:0 < l.length) (x:Int) (junk:List AV):(O6 l ++ junk).set (l.length - 1) (.int .i64 x) = O6 (setLast l x) ++ junk:=by
 rw [List.set_append_left _ _ (by simp [O6]; omega)]
 simp only [O6,setLast,List.map_set]
theorem hc_drop {l:List Int} (hl:0 < l.length):O6 l = O6 l.dropLast ++ [.int .i64 (Q2 l)]:=by
 have hne:l ≠ []:=by intro h; rw [h] at hl; simp at hl
 have e:Q2 l = l.getLast hne:=by
  unfold Q2
  rw [List.getD_eq_getElem?_getD,←List.getLast?_eq_getElem?,List.getLast?_eq_some_getLast hne]
  rfl
 have:=List.dropLast_concat_getLast hne
 rw [e]
 conv=>lhs; rw [←this]
 simp [O6]
theorem kinds_spec (H:Prg p P tx cd sx bl S) (hN:Now P V A O B k g lets ar S) (hl0:0 < lets.length) (hl1:lets.length ≤ 1050000) {o:OpA} {lv:AV} (i:Nat) (cv:AV) (n:Int) (hk4:o.k = 4∨o.k = 5→0 ≤ o.a∧o.a < ((p.texts.length:Nat):Int)) (hk6:o.k = 6→1 < lets.length) :
  ∃ S' g',i6.N7 (.mp B 0 0) ((i:Nat):Int) (.ip (oc o lv)) cv n n S = some ⟨.ret (.tup []),none,S'⟩∧Now P V A O B (Q6 p i o k lets).1 g' (Q6 p i o k lets).2 ar S'∧O5 (V + 1) S S':=by
 obtain ⟨junk,hO⟩:=hN.hO
 have hOl:=(List.getElem?_eq_some_iff.1 hO).1
 have h2:=hN.n2; have h3':=hN.n3; have h4':=hN.n4
 have hlen:P3 (.ms O g 0 lets.length 1) = some lets.length:=rfl
 have hbl:(T0 V O g lets k).length = 13:=rfl
 have hBl:=(List.getElem?_eq_some_iff.1 hN.hB).1
 rw [i6.N7_e]
 unfold Q6
 by_cases h3:o.k = 3
 ·rw [if_pos h3]
  have hli:(S8 false 1 1 (O9 (fun i=>some (i * 1,1)) [.int .i64 0] [(0,(.int .i64 0))]) S) = some (.is [.int .i64 0] 1 .full,S):=rfl
  have happ:X6 false false 1 8 (.ms O g 0 lets.length 1) (.is [.int .i64 0] 1 .full) S = some (.ms O (g + 1) 0 (lets.length + 1) 1,S.set O (.cells (g + 1) (O6 (lets ++ [0])) 0)):=by
   have htail:T6 false 1 S (.is [.int .i64 0] 1 .full) = some ([.int .i64 0],1):=rfl
   have hroom:room 8 (lets.length + 1) = true:=by simp [room]; omega
   have hle:0 + lets.length * 1 ≤ (O6 lets ++ junk).length:=by rw [List.length_append]; simp [O6]
   have ht:(O6 lets ++ junk).take lets.length = O6 lets:=by
    rw [List.take_append_of_le_length (by simp [O6])]
    have:(O6 lets).length = lets.length:=by simp [O6]
    rw [←this,List.take_length]
   simp only [X6,htail,Option.bind_some,true_and,hroom,if_true,hO,hle,and_self,List.drop_zero,Nat.mul_one,ht]
   simp [O6]
  obtain ⟨S1,hS1⟩:∃ S1,S1 = S.set O (.cells (g + 1) (O6 (lets ++ [0])) 0):=⟨_,rfl⟩
  have hll:(lets ++ [(0:Int)]).length = lets.length + 1:=by simp
  have hN1:Now P V A O B k (g + 1) (lets ++ [0]) ar (S1.set B (.cells 0 ((T0 V O g lets k).set 9 (.ms O (g + 1) 0 (lets.length + 1) 1)) 0)):=
   hN.setO (junk:=[]) (by rw [hS1,List.append_nil]; exact List.getElem?_set_self hOl) (fun j hj=>by rw [hS1,List.getElem?_set_ne (Ne.symm hj)]) (by rw [hS1]; simp) (by unfold T0; rw [hll]; rfl)
  have hB1:S1[B]? = some (.cells 0 (T0 V O g lets k) 0):=by rw [hS1,List.getElem?_set_ne (by omega)]; exact hN.hB
  obtain ⟨S2,hS2⟩:∃ S2,S2 = S1.set B (.cells 0 ((T0 V O g lets k).set 9 (.ms O (g + 1) 0 (lets.length + 1) 1)) 0):=⟨_,rfl⟩
  rw [←hS2] at hN1
  have hN2:=hN1.setB (k':={ k with opened:=((i:Nat):Int) }) (cs:=(T0 V O (g + 1) (lets ++ [0]) k).set 10 (.int .i64 ((i:Nat):Int))) rfl
  have hN3:=hN2.setB (k':={ k with opened:=((i:Nat):Int),name:=⟨#[]⟩ }) (cs:=(T0 V O (g + 1) (lets ++ [0]) { k with opened:=((i:Nat):Int) }).set 11 (.str ⟨#[]⟩)) rfl
  refine ⟨_,g + 1,?_,hN3,?_⟩
  ·refine (bf (O0 (by omega))).trans ?_
   refine (rdO (k:=0) rfl).trans ?_
   refine (br (aI _)).trans ?_
   refine (bt (O4 h3)).trans ?_
   refine (rdM hN.hB (k:=9) rfl).trans ?_
   refine (br hli).trans ?_
   refine (br happ).trans ?_
   rw [←hS1]
   refine (wrM hB1 (by rw [hbl]; omega) rfl rfl).trans ?_
   rw [←hS2]
   refine (wrM hN1.hB (by show 10 < 13; omega) rfl rfl).trans ?_
   refine (wrM hN2.hB (by show 11 < 13; omega) rfl rfl).trans ?_
   rfl
  ·rw [hS2,hS1]
   exact (O5.set (by omega)).trans ((O5.set (by omega)).trans ((O5.set (by omega)).trans (O5.set (by omega))))
 rw [if_neg h3]
 have core:∀ b,b = decide (o.k = 4∨o.k = 5)→∃ S' g',i6.M6 (.mp B 0 0) ((i:Nat):Int) (.ip (oc o lv)) (.int .i64 o.k) b S = some ⟨.ret (.tup []),none,S'⟩∧Now P V A O B (if o.k = 4∨o.k = 5 then ({ k with opened:=((i:Nat):Int),name:=p.texts.getD o.a.toNat ⟨#[]⟩ },lets) else if o.k = 6 then ({ k with first:=if lets.length = 2∧k.first < 0 then ((i:Nat):Int) else k.first },lets.dropLast) else if o.k = 11 then ({ k with depth:=wr (k.depth + 1) },setLast lets (wr (Q2 lets + 1))) else if o.k = 12 then ({ k with depth:=wr (k.depth - o.a) },setLast lets (wr (Q2 lets - o.a))) else (k,lets):Bk × List Int).1 g' (if o.k = 4∨o.k = 5 then ({ k with opened:=((i:Nat):Int),name:=p.texts.getD o.a.toNat ⟨#[]⟩ },lets) else if o.k = 6 then ({ k with first:=if lets.length = 2∧k.first < 0 then ((i:Nat):Int) else k.first },lets.dropLast) else if o.k = 11 then ({ k with depth:=wr (k.depth + 1) },setLast lets (wr (Q2 lets + 1))) else if o.k = 12 then ({ k with depth:=wr (k.depth - o.a) },setLast lets (wr (Q2 lets - o.a))) else (k,lets):Bk × List Int).2 ar S'∧O5 (V + 1) S S':=by
  intro b hb
  rw [i6.M6_e]
  by_cases h4:o.k = 4∨o.k = 5
  ·rw [O4 h4] at hb
   subst hb
   rw [if_pos h4]
   obtain ⟨q1,q2⟩:=hk4 h4
   obtain ⟨w,hw⟩:∃ w:Nat,o.a = (w:Int):=⟨o.a.toNat,by omega⟩
   obtain ⟨cs,hia,rfl⟩:=H.hT.2.2.2 w (by omega)
   have hN1:=hN.setB (k':={ k with opened:=((i:Nat):Int) }) (cs:=(T0 V O g lets k).set 10 (.int .i64 ((i:Nat):Int))) rfl
   have hN2:=hN1.setB (k':={ k with opened:=((i:Nat):Int),name:=p.texts.getD w ⟨#[]⟩ }) (cs:=(T0 V O g lets { k with opened:=((i:Nat):Int) }).set 11 (.str (p.texts.getD w ⟨#[]⟩))) rfl
   rw [hw,Int.toNat_natCast]
   refine ⟨_,g,?_,hN2,(O5.set (by omega)).trans (O5.set (by omega))⟩
   refine (bt rfl).trans ?_
   refine (rdM hN.hB (k:=0) rfl).trans ?_
   refine (rdM hN.hV (k:=0) rfl).trans ?_
   refine (rdM H.hP (k:=0) rfl).trans ?_
   refine (rdO (k:=1) rfl).trans ?_
   rw [hw]
   refine (br hia).trans ?_
   refine (br (l1 _ _)).trans ?_
   refine (wrM hN.hB (by show 10 < 13; omega) rfl rfl).trans ?_
   exact wrM hN1.hB (by show 11 < 13; omega) rfl rfl
  rw [O0 h4] at hb
  subst hb
  rw [if_neg h4]
  by_cases h6:o.k = 6
  ·rw [if_pos h6]
   have hl2:=hk6 h6
   have hw1:IntKind.wrap .i64 (((lets.length:Nat):Int) - 1) = ((lets.length - 1:Nat):Int):=w64 _ (by omega) (by omega)
   have hcut:a06 1 (.ms O g 0 lets.length 1) none (some (.int .i64 ((lets.length - 1:Nat):Int))) = some (.ms O g 0 (lets.length - 1) 1):=by
    have hb:bnd lets.length lets.length (some (.int .i64 ((lets.length - 1:Nat):Int))) = some (lets.length - 1):=by
     unfold bnd
     simp only
     rw [if_pos (by omega)]
     simp
    simp only [a06,hb,Option.bind_some]
    simp only [bnd,Option.bind_some,if_true,Nat.zero_mul,Nat.add_zero,Nat.sub_zero]
   have hdl:lets.dropLast.length = lets.length - 1:=by simp
   have hN1:Now P V A O B k g lets.dropLast ar (S.set B (.cells 0 ((T0 V O g lets k).set 9 (.ms O g 0 (lets.length - 1) 1)) 0)):=
    hN.setO (S':=S) (junk := .int .i64 (Q2 lets) :: junk) (by rw [hO,hc_drop hl0]; simp) (fun _ _=>rfl) rfl (by unfold T0; rw [hdl]; rfl)
   have hlen1:P3 (.ms O g 0 lets.dropLast.length 1) = some (lets.length - 1):=by rw [hdl]; rfl
   obtain ⟨S1,hS1⟩:∃ S1,S1 = S.set B (.cells 0 ((T0 V O g lets k).set 9 (.ms O g 0 (lets.length - 1) 1)) 0):=⟨_,rfl⟩
   rw [←hS1] at hN1
   have hk1:O5 (V + 1) S S1:=by rw [hS1]; exact O5.set (by omega)
   have pre:i6.M6 (.mp B 0 0) ((i:Nat):Int) (.ip (oc o lv)) (.int .i64 o.k) false S = i6.L8 (.mp B 0 0) ((i:Nat):Int) (decide (lets.length = 2∧k.first < 0)) S1:=by
    rw [i6.M6_e]
    refine (bf rfl).trans ?_
    refine (br (aI _)).trans ?_
    refine (bt (O4 h6)).trans ?_
    refine (rdM hN.hB (k:=9) rfl).trans ?_
    refine (rdM hN.hB (k:=9) rfl).trans ?_
    refine (br hlen).trans ?_
    rw [hw1]
    refine (br hcut).trans ?_
    refine (wrM hN.hB (by show 9 < 13; omega) rfl rfl).trans ?_
    rw [←hS1]
    refine (rdM hN1.hB (k:=9) rfl).trans ?_
    refine (br hlen1).trans ?_
    by_cases e2:lets.length = 2
    ·refine (bt (O4 (by omega))).trans ?_
     refine (rdM hN1.hB (k:=12) rfl).trans ?_
     refine (br (aI _)).trans ?_
     rw [show decide (k.first < 0) = decide (lets.length = 2∧k.first < 0) by simp [e2]]
    ·refine (bf (O0 (by omega))).trans ?_
     rw [O0 (show ¬ (lets.length = 2∧k.first < 0) from fun h=>e2 h.1)]
   rw [i6.M6_e] at pre
   rw [pre,i6.L8_e]
   by_cases e2:lets.length = 2∧k.first < 0
   ·have hN2:=hN1.setB (k':={ k with first:=((i:Nat):Int) }) (cs:=(T0 V O g lets.dropLast k).set 12 (.int .i64 ((i:Nat):Int))) rfl
    rw [if_pos e2]
    refine ⟨_,g,?_,hN2,hk1.trans (O5.set (by omega))⟩
    refine (bt (O4 e2)).trans ?_
    exact wrM hN1.hB (by show 12 < 13; omega) rfl rfl
   ·rw [if_neg e2]
    refine ⟨S1,g,bf (O0 e2),hN1,hk1⟩
  rw [if_neg h6]
  by_cases h11:o.k = 11
  ·rw [if_pos h11]
   have hN1:=hN.setB (k':={ k with depth:=wr (k.depth + 1) }) (cs:=(T0 V O g lets k).set 8 (.int .i64 (wr (k.depth + 1)))) rfl
   obtain ⟨S1,hS1⟩:∃ S1,S1 = S.set B (.cells 0 ((T0 V O g lets k).set 8 (.int .i64 (wr (k.depth + 1)))) 0):=⟨_,rfl⟩
   rw [←hS1] at hN1
   have hO1:S1[O]? = some (.cells g (O6 lets ++ junk) 0):=by rw [hS1,List.getElem?_set_ne (by omega)]; exact hO
   have hN2:=hN1.setOv (lets':=setLast lets (wr (Q2 lets + 1))) (junk:=junk) (by simp [setLast])
   have hst:sto 1 S1 (.mp O g (lets.length - 1)) (.int .i64 (IntKind.wrap .i64 (Q2 lets + 1))) = some (S1.set O (.cells g (O6 (setLast lets (wr (Q2 lets + 1))) ++ junk) 0)):=by
    rw [a3T hO1 (by rw [List.length_append]; simp [O6]; omega) rfl rfl,hc_last hl0]
   refine ⟨_,g,?_,hN2,?_⟩
   ·refine (bf rfl).trans ?_
    refine (br (aI _)).trans ?_
    refine (bf (O0 h6)).trans ?_
    refine (br (aI _)).trans ?_
    refine (bt (O4 h11)).trans ?_
    refine (rdM hN.hB (k:=8) rfl).trans ?_
    refine (br (aI _)).trans ?_
    refine (wrM hN.hB (by show 8 < 13; omega) rfl rfl).trans ?_
    rw [←hS1]
    refine (cr (a0E hN1 hl0 hl1)).trans ?_
    refine (br (show O2 (.mp O g (lets.length - 1)) = some _ from rfl)).trans ?_
    refine (br (a1M hN1 hl0)).trans ?_
    refine (br (aI _)).trans ?_
    refine (br (show O2 (.mp O g (lets.length - 1)) = some _ from rfl)).trans ?_
    exact br hst
   ·rw [hS1]
    exact (O5.set (by omega)).trans (O5.set (by omega))
  rw [if_neg h11]
  by_cases h12:o.k = 12
  ·rw [if_pos h12]
   have hN1:=hN.setB (k':={ k with depth:=wr (k.depth - o.a) }) (cs:=(T0 V O g lets k).set 8 (.int .i64 (wr (k.depth - o.a)))) rfl
   obtain ⟨S1,hS1⟩:∃ S1,S1 = S.set B (.cells 0 ((T0 V O g lets k).set 8 (.int .i64 (wr (k.depth - o.a)))) 0):=⟨_,rfl⟩
   rw [←hS1] at hN1
   have hO1:S1[O]? = some (.cells g (O6 lets ++ junk) 0):=by rw [hS1,List.getElem?_set_ne (by omega)]; exact hO
   have hN2:=hN1.setOv (lets':=setLast lets (wr (Q2 lets - o.a))) (junk:=junk) (by simp [setLast])
   have hst:sto 1 S1 (.mp O g (lets.length - 1)) (.int .i64 (IntKind.wrap .i64 (Q2 lets - o.a))) = some (S1.set O (.cells g (O6 (setLast lets (wr (Q2 lets - o.a))) ++ junk) 0)):=by
    rw [a3T hO1 (by rw [List.length_append]; simp [O6]; omega) rfl rfl,hc_last hl0]
   refine ⟨_,g,?_,hN2,?_⟩
   ·refine (bf rfl).trans ?_
    refine (br (aI _)).trans ?_
    refine (bf (O0 h6)).trans ?_
    refine (br (aI _)).trans ?_
    refine (bf (O0 h11)).trans ?_
    refine (br (aI _)).trans ?_
    refine (bt (O4 h12)).trans ?_
    refine (rdM hN.hB (k:=8) rfl).trans ?_
    refine (rdO (k:=1) rfl).trans ?_
    refine (br (aI _)).trans ?_
    refine (br (aI _)).trans ?_
    refine (wrM hN.hB (by show 8 < 13; omega) rfl rfl).trans ?_
    rw [←hS1]
    refine (cr (a0E hN1 hl0 hl1)).trans ?_
    refine (it rfl).trans ?_
    refine (br (show O2 (.mp O g (lets.length - 1)) = some _ from rfl)).trans ?_
    refine (br (a1M hN1 hl0)).trans ?_
    refine (rdO (k:=1) rfl).trans ?_
    refine (br (aI _)).trans ?_
    refine (br (aI _)).trans ?_
    refine (br (show O2 (.mp O g (lets.length - 1)) = some _ from rfl)).trans ?_
    exact br hst
   ·rw [hS1]
    exact (O5.set (by omega)).trans (O5.set (by omega))
  rw [if_neg h12]
  refine ⟨S,g,?_,hN,O5.refl _ _⟩
  refine (bf rfl).trans ?_
  refine (br (aI _)).trans ?_
  refine (bf (O0 h6)).trans ?_
  refine (br (aI _)).trans ?_
  refine (bf (O0 h11)).trans ?_
  refine (br (aI _)).trans ?_
  exact bf (O0 h12)
 have bfn:decide (n < n) = false:=O0 (by omega)
 by_cases h4:o.k = 4
 ·obtain ⟨S',g',e1,e2⟩:=core (decide (o.k = 4)) (by simp [h4])
  refine ⟨S',g',?_,e2⟩
  refine (bf bfn).trans ?_
  refine (rdO (k:=0) rfl).trans ?_
  refine (br (aI _)).trans ?_
  refine (bf (O0 h3)).trans ?_
  refine (br (aI _)).trans ?_
  exact (bt (O4 h4)).trans e1
 ·obtain ⟨S',g',e1,e2⟩:=core (decide (o.k = 5)) (by simp [h4])
  refine ⟨S',g',?_,e2⟩
  refine (bf bfn).trans ?_
  refine (rdO (k:=0) rfl).trans ?_
  refine (br (aI _)).trans ?_
  refine (bf (O0 h3)).trans ?_
  refine (br (aI _)).trans ?_
  refine (bf (O0 h4)).trans ?_
  refine (br (aI _)).trans ?_
  exact e1
theorem done_spec (H:Prg p P tx cd sx bl S) (hN:Now P V A O B k g lets ar S) (hl0:0 < lets.length) (hl1:lets.length ≤ 1050000) {o:OpA} {lv:AV} (hl:W4 o.l lv) (i:Nat) (hk4:o.k = 4∨o.k = 5→0 ≤ o.a∧o.a < ((p.texts.length:Nat):Int)) (hk6:o.k = 6→1 < lets.length) (hb:∀ x ∈ O3 o,0 ≤ x.1∧x.1 < ((ar.length:Nat):Int)) :
  ∃ S' g',O1 ap 64 [.mp B 0 0, .int .i64 ((i:Nat):Int), .ip (oc o lv)] S = some (.ret (.tup []),S')∧Now P V A O B (Q6 p i o k lets).1 g' (Q6 p i o k lets).2 (a2u k lets o ar (O3 o)) S'∧O5 (V + 1) S S':=by
 have hBl:=(List.getElem?_eq_some_iff.1 hN.hB).1
 have h1:=hN.n1; have h2:=hN.n2; have h3:=hN.n3; have h4:=hN.n4
 obtain ⟨cv,hc,hcv⟩:=a0H hl S
 obtain ⟨S1,e1,e2,e3⟩:=done_loop (lv:=lv) hcv ((i:Nat):Int) hl1 (O3 o).length 0 S ar (by omega) (by omega) hN (by simpa using hb)
 have H1:Prg p P tx cd sx bl S1:=H.mono (V1 e3 (by omega))
 obtain ⟨S',g',f1,f2,f3⟩:=kinds_spec H1 e2 hl0 hl1 (lv:=lv) i cv (((O3 o).length:Nat):Int) hk4 hk6
 refine ⟨S',g',?_,by simpa using f2,e3.trans f3⟩
 have hb2:i6.b (.mp B 0 0) ((i:Nat):Int) (.ip (oc o lv)) S = some ⟨.ret (.tup []),none,S'⟩:=by
  rw [i6.b_eq]
  refine (cr hc).trans ?_
  refine (br hcv.len).trans ?_
  exact e1.trans f1
 rw [i6.call,hb2]
 rfl
end
end Go.Proofs.YtcgepgahgihojaaGreatDoor
namespace Go.Proofs.YtcgepgahgihojaaGreatDoor
open Go.St Go.Lib
set_option linter.unusedVariables false
set_option linter.unusedSimpArgs false
def a14 (p:PrA) (k:Bk) (c:Int × Int):Bool:=decide (ckC (p.codes.getD c.1.toNat []) ((p.texts.length:Nat):Int) (wr (k.depth + c.2)) = 0)
noncomputable def opE (p:PrA) (i:Nat) (o:OpA) (k:Bk) (lets:List Int) (ar:List Ar):Nat:=
 if Y6 p i o = false then 2203
 else if (P7 o).all (a14 p k) = false then 2201
 else if Q1 p k lets i o = false then 2204
 else if a15 k p ar o = false then 2205
 else if a1w k o = true then 2208
 else if o.k = 9∧8 ≤ k.inn.loops then 2206
 else 0
theorem Q4 (b:Bool):b = false∨b = true:=by cases b <;> simp
theorem a0X {p:PrA} {i:Nat} {o:OpA} (h:Y6 p i o = true):(∀ c ∈ P7 o,0 ≤ c.1∧c.1 < ((p.codes.length:Nat):Int))∧(o.k = 7→0 ≤ o.a∧o.a < ((p.statics.len:Nat):Int))∧(o.k = 4∨o.k = 5→0 ≤ o.a∧o.a < ((p.texts.length:Nat):Int))∧i < 8192:=by
 unfold Y6 at h
 simp only [Bool.and_eq_true,Bool.not_eq_true',Bool.or_eq_false_iff,decide_eq_false_iff_not,List.all_eq_true] at h
 obtain ⟨⟨h1,_⟩,h2,h3⟩:=h
 have num:∀ {x n:Int},a0h x n = true→0 ≤ x∧x < n:=fun {x n} hx=>by simpa [a0h] using hx
 refine ⟨fun c hc=>num (h2 c hc),fun h7=>?_,fun h45=>?_,by omega⟩
 ·unfold a00 at h3
  rw [if_neg (by omega),if_neg (by omega),if_neg (by omega),if_neg (by omega),if_neg (by omega),if_pos h7,Bool.and_eq_true] at h3
  exact num h3.2
 ·have tx:∀ {x:Int} {t:Bool},V5 p.texts x t = true→0 ≤ x∧x < ((p.texts.length:Nat):Int):=fun {x t} hx=>by
   unfold V5 at hx
   rw [Bool.and_eq_true] at hx
   exact num hx.1
  unfold a00 at h3
  rw [if_neg (by omega),if_neg (by omega)] at h3
  rcases h45 with h4 | h5
  ·rw [if_pos h4,Bool.and_eq_true,Bool.and_eq_true] at h3
   exact tx h3.2.1
  ·rw [if_neg (by omega),if_pos h5,Bool.and_eq_true] at h3
   exact tx h3.2
theorem a2W {num:Int} {n:Nat} {ar:List Ar} {all:List (Int × Int)}:∀ (l:List (Int × Int)) (i:Nat),a27 num n ar all i l = true→∀ x ∈ l,num < x.1∧x.1 < (n:Int)∧owned ar x.1 = false:=by
 intro l
 induction l with
 | nil=>intro i _ x hx; simp at hx
 | cons y r ih=>
  intro i h x hx
  simp only [a27,Bool.and_eq_true] at h
  rcases List.mem_cons.1 hx with rfl | hx
  ·have:=h.1
   unfold ownB at this
   simp only [Bool.not_eq_true',Bool.or_eq_false_iff,decide_eq_false_iff_not] at this
   exact ⟨by omega,by omega,this.2.2.1⟩
  ·exact ih (i + 1) h.2 x hx
theorem Y2 {p:PrA} {k:Bk} {lets:List Int} {i:Nat} {o:OpA} (h:Q1 p k lets i o = true) (h6:o.k = 6):1 < lets.length∧Q2 lets = 0:=by
 unfold Q1 at h
 rw [if_neg (by omega),if_neg (by omega),if_neg (by omega),if_pos h6,Bool.and_eq_true] at h
 exact ⟨of_decide_eq_true h.1,of_decide_eq_true h.2⟩
section
variable {p:PrA} {P V A O B:Nat} {tx cd sx bl:AV} {S:Sto} {k:Bk} {g:Nat} {lets:List Int} {ar:List Ar}
theorem code_loop (hs:W2 p) {o:OpA} {lv:AV} (hl:W4 o.l lv) {cv:AV} (hc:a19 (P7 o) cv) (hcl:(P7 o).length ≤ 1050000) (hr:∀ c ∈ P7 o,0 ≤ c.1∧c.1 < ((p.codes.length:Nat):Int)) (w:Int):∀ (m i:Nat) (S:Sto),i + m = (P7 o).length→P + 1 ≤ S.length→Prg p P tx cd sx bl S→Now P V A O B k g lets ar S →
  (((P7 o).drop i).all (a14 p k) = true→∃ S',j9.F0 (.mp B 0 0) w (.ip (oc o lv)) cv (((P7 o).length:Nat):Int) ((i:Nat):Int) S = j9.F0 (.mp B 0 0) w (.ip (oc o lv)) cv (((P7 o).length:Nat):Int) (((P7 o).length:Nat):Int) S'∧S.length ≤ S'.length∧∀ (j:Nat) (o:Ob),S[j]? = some o→S'[j]? = some o) ∧
  (((P7 o).drop i).all (a14 p k) = false→∃ S',j9.F0 (.mp B 0 0) w (.ip (oc o lv)) cv (((P7 o).length:Nat):Int) ((i:Nat):Int) S = some ⟨.ret (.int .i64 2201),none,S'⟩∧S.length ≤ S'.length∧∀ (j:Nat) (o:Ob),S[j]? = some o→S'[j]? = some o):=by
 intro m
 induction m with
 | zero=>
  intro i S him hPl H hN
  have hi:i = (P7 o).length:=by omega
  subst hi
  exact ⟨fun _=>⟨S,rfl,Nat.le_refl _,fun _ _ h=>h⟩,fun h=>by rw [List.drop_length] at h; cases h⟩
 | succ m ih=>
  intro i S him hPl H hN
  have hi:i < (P7 o).length:=by omega
  obtain ⟨x,hx,hd⟩:=a0G hi
  have hia:=a1v hc hx
  have w1:IntKind.wrap .i64 (((i:Nat):Int) + 1) = ((i + 1:Nat):Int):=w64 _ (by omega) (by omega)
  obtain ⟨q1,q2⟩:=hr x (List.mem_of_getElem? hx)
  obtain ⟨y,hy⟩:∃ y:Nat,x.1 = (y:Int):=⟨x.1.toNat,by omega⟩
  have hyt:x.1.toNat = y:=by omega
  obtain ⟨cs,hca,cw,rfl,hcw⟩:=H.hC.2.2.2 y (by omega)
  obtain ⟨S1,hS1⟩:∃ S1,S1 = S ++ [Ob.cells 0 [.int .i64 x.1, .int .i64 x.2] 0]:=⟨_,rfl⟩
  have H1:Prg p P tx cd sx bl S1:=by rw [hS1]; exact H.mono (O5.app hPl)
  have hN1:Now P V A O B k g lets ar S1:=by rw [hS1]; exact hN.mono a0B
  have hl1:S.length + 1 = S1.length:=by rw [hS1]; simp
  have hk1:∀ (j:Nat) (o:Ob),S[j]? = some o→S1[j]? = some o:=by rw [hS1]; exact a0B
  have hp0:ld false 1 S1 (.mp S.length 0 0) = some (.int .i64 x.1):=by rw [hS1]; exact a39 _ _ _
  have hp1:ld false 1 S1 (.mp S.length 0 1) = some (.int .i64 x.2):=by rw [hS1]; exact a3J _ _ _
  have hck:=a1c hcw (by have:=hs.cs y; omega) ((p.texts.length:Nat):Int) (wr (k.depth + x.2)) S1
  have pre:j9.F0 (.mp B 0 0) w (.ip (oc o lv)) cv (((P7 o).length:Nat):Int) ((i:Nat):Int) S = (bif !a14 p k x then some ⟨.ret (.int .i64 2201),none,S1⟩ else j9.F0 (.mp B 0 0) w (.ip (oc o lv)) cv (((P7 o).length:Nat):Int) ((i + 1:Nat):Int) S1):=by
   rw [j9.F0_e]
   refine (bt (O4 (by omega))).trans ?_
   refine (br hia).trans ?_
   refine (br (l2 _ _ _)).trans ?_
   refine (br (a1O _ _ _)).trans ?_
   rw [←hS1]
   refine (rdM hN1.hB (k:=0) rfl).trans ?_
   refine (rdM hN1.hV (k:=0) rfl).trans ?_
   refine (rdM H1.hP (k:=1) rfl).trans ?_
   refine (br (a0r _)).trans ?_
   refine (br hp0).trans ?_
   refine (br (show ia 1 cd (.int .i64 x.1) = some (.ip [cw]) by rw [hy]; exact hca)).trans ?_
   refine (br (l1 _ _)).trans ?_
   refine (rdM hN1.hB (k:=0) rfl).trans ?_
   refine (rdM hN1.hV (k:=0) rfl).trans ?_
   refine (rdM H1.hP (k:=0) rfl).trans ?_
   refine (br H1.hT.1).trans ?_
   refine (rdM hN1.hB (k:=8) rfl).trans ?_
   refine (br (pair_at1 _)).trans ?_
   refine (br hp1).trans ?_
   refine (br (aI _)).trans ?_
   refine (br (aI _)).trans ?_
   refine (cr hck).trans ?_
   refine (it rfl).trans ?_
   refine (br (aI _)).trans ?_
   rw [w1]
   unfold a14
   rw [hyt,show decide ((((ckC (p.codes.getD y []) ((p.texts.length:Nat):Int) (wr (k.depth + x.2)):Nat)):Int) = 0) = decide (ckC (p.codes.getD y []) ((p.texts.length:Nat):Int) (wr (k.depth + x.2)) = 0) from decide_eq_decide.2 (by omega)]
  obtain ⟨i1,i2⟩:=ih (i + 1) S1 (by omega) (by omega) H1 hN1
  rw [hd,List.all_cons,pre]
  cases hb:a14 p k x with
  | false=>
   exact ⟨fun h=>(by rw [Bool.false_and] at h; cases h),fun _=>⟨S1,bt rfl,by omega,hk1⟩⟩
  | true=>
   rw [Bool.true_and]
   refine ⟨fun h=>?_,fun h=>?_⟩
   ·obtain ⟨S',e1,e2,e3⟩:=i1 h
    exact ⟨S',(bf rfl).trans e1,by omega,fun j o h=>e3 j o (hk1 j o h)⟩
   ·obtain ⟨S',e1,e2,e3⟩:=i2 h
    exact ⟨S',(bf rfl).trans e1,by omega,fun j o h=>e3 j o (hk1 j o h)⟩
theorem keeps_of {n:Nat} {S S':Sto} (hn:n ≤ S.length) (hl:S.length ≤ S'.length) (h:∀ (j:Nat) (o:Ob),S[j]? = some o→S'[j]? = some o):O5 n S S':=⟨hl,fun i hi=>by
 obtain ⟨o,ho⟩:∃ o,S[i]? = some o:=⟨_,List.getElem?_eq_getElem (by omega)⟩
 rw [ho,h i o ho]⟩
theorem op_spec (H:Prg p P tx cd sx bl S) (hs:W2 p) (hN:Now P V A O B k g lets ar S) (hl0:0 < lets.length) (hl1:lets.length ≤ 1050000) (har:ar.length = p.blocks.length) (hnum:0 ≤ k.num) (hm:∀ row n m,sx = .is row n (.cut m)→n ≤ m) {o:OpA} {lv:AV} (hl:W4 o.l lv) (hol:o.l.length ≤ 1050000) (i:Nat) :
  ∃ S' g',O1 ap 33 [.mp B 0 0, .int .i64 ((i:Nat):Int), .ip (oc o lv)] S = some (.ret (.int .i64 ((opE p i o k lets ar:Nat):Int)),S')∧O5 (V + 1) S S'∧(opE p i o k lets ar = 0→Now P V A O B (Q6 p i o k lets).1 g' (Q6 p i o k lets).2 (a2u k lets o ar (O3 o)) S'∧Y6 p i o = true∧Q1 p k lets i o = true∧a15 k p ar o = true):=by
 have hBl:=(List.getElem?_eq_some_iff.1 hN.hB).1
 have h1:=hN.n1; have h2:=hN.n2; have h3:=hN.n3; have h4:=hN.n4
 suffices hb:∃ S' g',j9.b (.mp B 0 0) ((i:Nat):Int) (.ip (oc o lv)) S = some ⟨.ret (.int .i64 ((opE p i o k lets ar:Nat):Int)),none,S'⟩∧O5 (V + 1) S S'∧(opE p i o k lets ar = 0→Now P V A O B (Q6 p i o k lets).1 g' (Q6 p i o k lets).2 (a2u k lets o ar (O3 o)) S'∧Y6 p i o = true∧Q1 p k lets i o = true∧a15 k p ar o = true) by
  obtain ⟨S',g',b1,b2⟩:=hb
  refine ⟨S',g',?_,b2⟩
  rw [j9.call,b1]
  rfl
 have stop:∀ (e:Nat) (T:Sto),e ≠ 0→opE p i o k lets ar = e→j9.b (.mp B 0 0) ((i:Nat):Int) (.ip (oc o lv)) S = some ⟨.ret (.int .i64 ((e:Nat):Int)),none,T⟩→O5 (V + 1) S T→∃ S' g',j9.b (.mp B 0 0) ((i:Nat):Int) (.ip (oc o lv)) S = some ⟨.ret (.int .i64 ((opE p i o k lets ar:Nat):Int)),none,S'⟩∧O5 (V + 1) S S'∧(opE p i o k lets ar = 0→Now P V A O B (Q6 p i o k lets).1 g' (Q6 p i o k lets).2 (a2u k lets o ar (O3 o)) S'∧Y6 p i o = true∧Q1 p k lets i o = true∧a15 k p ar o = true):=fun e T he hE hb hk=>⟨T,g,by rw [hE]; exact hb,hk,fun h0=>absurd (hE.symm.trans h0) he⟩
 have hf:=form_spec H hs hN hl hol i
 rcases Q4 (Y6 p i o) with hform | hform
 ·
  rw [hform] at hf
  refine stop 2203 S (by omega) (by unfold opE; rw [if_pos hform]) ?_ (O5.refl _ _)
  rw [j9.b_eq]
  exact (cr hf).trans ((br (aB _)).trans (bt rfl))
 ·
  rw [hform] at hf
  obtain ⟨f1,f2,f3,f4⟩:=a0X hform
  obtain ⟨cv,hc,hcv⟩:=a4H hl hol S
  obtain ⟨l1',l2'⟩:=code_loop hs hl hcv (a0S hol) f1 ((i:Nat):Int) (P7 o).length 0 S (by omega) (by omega) H hN
  rw [List.drop_zero] at l1' l2'
  have start:j9.b (.mp B 0 0) ((i:Nat):Int) (.ip (oc o lv)) S = j9.F0 (.mp B 0 0) ((i:Nat):Int) (.ip (oc o lv)) cv (((P7 o).length:Nat):Int) ((0:Nat):Int) S:=by
   rw [j9.b_eq]
   refine (cr hf).trans ?_
   refine (br (aB _)).trans ?_
   refine (bf rfl).trans ?_
   refine (cr hc).trans ?_
   exact br hcv.len
  have hform':¬ Y6 p i o = false:=by rw [hform]; simp
  rcases Q4 ((P7 o).all (a14 p k)) with hcs | hcs
  ·
   obtain ⟨T,e1,e2,e3⟩:=l2' hcs
   exact stop 2201 T (by omega) (by unfold opE; rw [if_neg hform',if_pos hcs]) (start.trans e1) (keeps_of (by omega) e2 e3)
  ·
   obtain ⟨T,e1,e2,e3⟩:=l1' hcs
   have hcs':¬ (P7 o).all (a14 p k) = false:=by rw [hcs]; simp
   have HT:Prg p P tx cd sx bl T:=H.mono (keeps_of (by omega) e2 e3)
   have hNT:Now P V A O B k g lets ar T:=hN.mono e3
   have hkT:O5 (V + 1) S T:=keeps_of (by omega) e2 e3
   have start2:=start.trans e1
   rw [j9.F0_e] at start2
   have bfn:decide ((((P7 o).length:Nat):Int) < (((P7 o).length:Nat):Int)) = false:=O0 (by omega)
   have hsh:=shape_spec HT hs hNT hl0 hl1 hm hl i f2 f3
   rcases Q4 (Q1 p k lets i o) with hshape | hshape
   ·
    rw [hshape] at hsh
    exact stop 2204 T (by omega) (by unfold opE; rw [if_neg hform',if_neg hcs',if_pos hshape]) (start2.trans ((bf bfn).trans ((cr hsh).trans ((br (aB _)).trans (bt rfl))))) hkT
   ·
    rw [hshape] at hsh
    have hshape':¬ Q1 p k lets i o = false:=by rw [hshape]; simp
    have how:=owns_spec HT hNT har hnum hl
    rcases Q4 (a15 k p ar o) with howns | howns
    ·
     rw [howns] at how
     exact stop 2205 T (by omega) (by unfold opE; rw [if_neg hform',if_neg hcs',if_neg hshape',if_pos howns]) (start2.trans ((bf bfn).trans ((cr hsh).trans ((br (aB _)).trans ((bf rfl).trans ((cr how).trans ((br (aB _)).trans (bt rfl)))))))) hkT
    ·
     rw [howns] at how
     have howns':¬ a15 k p ar o = false:=by rw [howns]; simp
     have hde:=deep_spec hNT hl
     rcases (Q4 (a1w k o)).symm with hdeep | hdeep
     ·
      rw [hdeep] at hde
      exact stop 2208 T (by omega) (by unfold opE; rw [if_neg hform',if_neg hcs',if_neg hshape',if_neg howns',if_pos hdeep]) (start2.trans ((bf bfn).trans ((cr hsh).trans ((br (aB _)).trans ((bf rfl).trans ((cr how).trans ((br (aB _)).trans ((bf rfl).trans ((cr hde).trans ((br (aB _)).trans (bt rfl))))))))))) hkT
     ·
      rw [hdeep] at hde
      have hdeep':¬ a1w k o = true:=by rw [hdeep]; simp
      have start3:=start2.trans ((bf bfn).trans ((cr hsh).trans ((br (aB _)).trans ((bf rfl).trans ((cr how).trans ((br (aB _)).trans ((bf rfl).trans ((cr hde).trans ((br (aB _)).trans ((bf rfl).trans ((rdO (k:=0) rfl).trans (br (aI _)))))))))))))
      have hin:∀ x ∈ O3 o,0 ≤ x.1∧x.1 < ((ar.length:Nat):Int):=fun x hx=>by
       have:=a2W _ _ howns x hx
       omega
      obtain ⟨S',g',d1,d2,d3⟩:=done_spec HT hNT hl0 hl1 hl i f3 (fun h6=>(Y2 hshape h6).1) hin
      have fin:j9.G3 (.mp B 0 0) ((i:Nat):Int) (.ip (oc o lv)) false T = some ⟨.ret (.int .i64 0),none,S'⟩:=by
       rw [j9.G3_e]
       exact (bf rfl).trans (cr d1)
      have hloop:j9.b (.mp B 0 0) ((i:Nat):Int) (.ip (oc o lv)) S = j9.G3 (.mp B 0 0) ((i:Nat):Int) (.ip (oc o lv)) (decide (o.k = 9∧8 ≤ k.inn.loops)) T:=by
       refine start3.trans ?_
       by_cases h9:o.k = 9
       ·refine (bt (O4 h9)).trans ?_
        refine (rdI hNT.hB (j:=3) (k:=4) rfl).trans ?_
        refine (br (aI _)).trans ?_
        rw [show decide (8 ≤ k.inn.loops) = decide (o.k = 9∧8 ≤ k.inn.loops) by simp [h9]]
       ·refine (bf (O0 h9)).trans ?_
        rw [O0 (show ¬ (o.k = 9∧8 ≤ k.inn.loops) from fun h=>h9 h.1)]
      by_cases h9:o.k = 9∧8 ≤ k.inn.loops
      ·rw [O4 h9,j9.G3_e] at hloop
       exact stop 2206 T (by omega) (by unfold opE; rw [if_neg hform',if_neg hcs',if_neg hshape',if_neg howns',if_neg hdeep',if_pos h9]) (hloop.trans (bt rfl)) hkT
      ·rw [O0 h9,fin] at hloop
       have hE:opE p i o k lets ar = 0:=by unfold opE; rw [if_neg hform',if_neg hcs',if_neg hshape',if_neg howns',if_neg hdeep',if_neg h9]
       exact ⟨S',g',by rw [hE]; exact hloop,hkT.trans d3,fun _=>⟨d2,hform,hshape,howns⟩⟩
end
noncomputable def S9 (p:PrA):List OpA→Nat→Bk→List Int→List Ar→Option (Nat × Nat) × Bk × List Int × List Ar
 | [],_,k,l,ar=>(none,k,l,ar)
 | o :: r,i,k,l,ar=>if opE p i o k l ar = 0 then S9 p r (i + 1) (Q6 p i o k l).1 (Q6 p i o k l).2 (a2u k l o ar (O3 o)) else (some (i,opE p i o k l ar),k,l,ar)
theorem opsGo_err {p:PrA}:∀ {l:List OpA} {i:Nat} {k:Bk} {lets:List Int} {ar:List Ar} {e:Nat × Nat},(S9 p l i k lets ar).1 = some e→e.2 ≠ 0:=by
 intro l
 induction l with
 | nil=>intro i k lets ar e h; simp [S9] at h
 | cons o r ih=>
  intro i k lets ar e h
  simp only [S9] at h
  by_cases hE:opE p i o k lets ar = 0
  ·rw [if_pos hE] at h; exact ih h
  ·rw [if_neg hE] at h; cases h; exact hE
theorem a3b {p:PrA} {i:Nat} {o:OpA} {k:Bk} {l:List Int} (h0:0 < l.length) (h6:o.k = 6→1 < l.length):0 < (Q6 p i o k l).2.length∧(Q6 p i o k l).2.length ≤ l.length + 1∧(Q6 p i o k l).1.num = k.num∧(Q6 p i o k l).1.inn = k.inn∧(Q6 p i o k l).1.bp = k.bp:=by
 unfold Q6
 by_cases h3:o.k = 3
 ·rw [if_pos h3]; exact ⟨by simp,by simp,rfl,rfl,rfl⟩
 rw [if_neg h3]
 by_cases h4:o.k = 4∨o.k = 5
 ·rw [if_pos h4]; exact ⟨h0,by simp,rfl,rfl,rfl⟩
 rw [if_neg h4]
 by_cases h6':o.k = 6
 ·rw [if_pos h6']
  have:=h6 h6'
  exact ⟨by simp; omega,by simp; omega,rfl,rfl,rfl⟩
 rw [if_neg h6']
 by_cases h11:o.k = 11
 ·rw [if_pos h11]; exact ⟨by simpa [setLast] using h0,by simp [setLast],rfl,rfl,rfl⟩
 rw [if_neg h11]
 by_cases h12:o.k = 12
 ·rw [if_pos h12]; exact ⟨by simpa [setLast] using h0,by simp [setLast],rfl,rfl,rfl⟩
 rw [if_neg h12]
 exact ⟨h0,by simp,rfl,rfl,rfl⟩
def badU (n:Nat) (pv:Option Int) (x:Int):Bool:=!a0h x (n:Int) || (match pv with | none=>false | some y=>decide (x ≤ y))
def updGo (n:Nat):Option Int→List Int→Nat→Nat × Nat
 | _,[],_=>(0,0)
 | pv,x :: r,i=>if badU n pv x = true then (i,2207) else updGo n (some x) r (i + 1)
def X4 (b:BlA) (first:Int):Bool:=if b.ops.length = 1 then decide ((b.ops.getD 0 default).k = 7) else if b.ops.length = 0 then false else if (b.ops.getD 0 default).k ≠ 3 then false else decide (first = wr (((b.ops.length:Nat):Int) - 1))
def endA (b:BlA) (k:Bk) (l:List Int):Nat × Nat:=
 if 1 < l.length∨0 < Q2 l then (b.ops.length,2204)
 else if k.inn.loop = true∧X4 b k.first = false then (0,2206)
 else updGo b.ops.length none b.upd 0
noncomputable def V8 (p:PrA) (b:BlA) (k:Bk) (l:List Int) (ar:List Ar):(Nat × Nat) × List Ar:=
 if 0 < k.num∧k.inn.owned = false then ((0,2205),ar)
 else if b.depth ≠ k.inn.depth then ((0,2208),ar)
 else match (S9 p b.ops 0 k l ar).1 with
  | some e=>(e,(S9 p b.ops 0 k l ar).2.2.2)
  | none=>(endA b (S9 p b.ops 0 k l ar).2.1 (S9 p b.ops 0 k l ar).2.2.1,(S9 p b.ops 0 k l ar).2.2.2)
def tup2 (e:Nat × Nat):AV := .tup [.int .i64 ((e.1:Nat):Int), .int .i64 ((e.2:Nat):Int)]
section
variable {p:PrA} {P V A O B:Nat} {tx cd sx bl:AV} {S:Sto} {k:Bk} {g:Nat} {lets:List Int} {ar:List Ar}
theorem upd_loop (hN:Now P V A O B k g lets ar S) {b:BlA} {cs:List AV} (hp:Ptr P S k.bp cs) {ov uv:AV} (hcs:cs = [.int .i64 b.depth,ov,uv]) (ho:a2U b.ops ov) (hu:W4 b.upd uv) (hul:b.upd.length ≤ 1050000):∀ (m i:Nat),i + m = b.upd.length →
  g7.H0 (.mp B 0 0) uv ((b.upd.length:Nat):Int) ((i:Nat):Int) S = some ⟨.ret (tup2 (updGo b.ops.length (if i = 0 then none else some (b.upd.getD (i - 1) 0)) (b.upd.drop i) i)),none,S⟩:=by
 intro m
 induction m with
 | zero=>
  intro i him
  have hi:i = b.upd.length:=by omega
  subst hi
  rw [g7.H0_e,List.drop_length]
  exact bf (O0 (by omega))
 | succ m ih=>
  intro i him
  have hi:i < b.upd.length:=by omega
  obtain ⟨cs2,hia,rfl⟩:=hu.2.2.2 i hi
  have w1:IntKind.wrap .i64 (((i:Nat):Int) + 1) = ((i + 1:Nat):Int):=w64 _ (by omega) (by omega)
  have hd:b.upd.drop i = b.upd.getD i 0 :: b.upd.drop (i + 1):=by
   rw [List.drop_eq_getElem_cons hi,List.getD_eq_getElem?_getD,List.getElem?_eq_getElem hi]; rfl
  have e1:cs[1]? = some ov:=by rw [hcs]; rfl
  have e2:cs[2]? = some uv:=by rw [hcs]; rfl
  have out:∀ q,q = badU b.ops.length (if i = 0 then none else some (b.upd.getD (i - 1) 0)) (b.upd.getD i 0)→g7.J2 (.mp B 0 0) ((i:Nat):Int) uv ((b.upd.length:Nat):Int) ((i:Nat):Int) q S = some ⟨.ret (tup2 (updGo b.ops.length (if i = 0 then none else some (b.upd.getD (i - 1) 0)) (b.upd.drop i) i)),none,S⟩:=by
   intro q hq
   rw [g7.J2_e,hd,w1]
   simp only [updGo]
   rw [←hq]
   cases q with
   | true=>exact bt rfl
   | false=>
    refine (bf rfl).trans ?_
    rw [ih (i + 1) (by omega)]
    simp
  rw [g7.H0_e]
  refine (bt (O4 (by omega))).trans ?_
  refine (br hia).trans ?_
  refine (br (l1 _ _)).trans ?_
  refine (rdM hN.hB (k:=2) rfl).trans ?_
  refine (rdP hp e1).trans ?_
  refine (br ho.1).trans ?_
  refine (cr (a0k _ _ S)).trans ?_
  refine (br (aB _)).trans ?_
  cases hn:a0h (b.upd.getD i 0) ((b.ops.length:Nat):Int) with
  | false=>
   refine (bt rfl).trans ?_
   exact out true (by unfold badU; rw [hn]; rfl)
  | true=>
   refine (bf rfl).trans ?_
   by_cases h0:i = 0
   ·refine (bf (O0 (by omega))).trans ?_
    exact out false (by unfold badU; rw [hn,if_pos h0]; rfl)
   ·refine (bt (O4 (by omega))).trans ?_
    refine (rdM hN.hB (k:=2) rfl).trans ?_
    refine (rdP hp e2).trans ?_
    have w2:IntKind.wrap .i64 (((i:Nat):Int) - 1) = ((i - 1:Nat):Int):=w64 _ (by omega) (by omega)
    obtain ⟨cs3,hia3,rfl⟩:=hu.2.2.2 (i - 1) (by omega)
    rw [w2]
    refine (br hia3).trans ?_
    refine (br (l1 _ _)).trans ?_
    refine (br (aI _)).trans ?_
    refine (br (aI _)).trans ?_
    exact out _ (by unfold badU; rw [hn,if_neg h0]; rfl)
theorem single_spec (hN:Now P V A O B k g lets ar S) {b:BlA} {cs:List AV} (hp:Ptr P S k.bp cs) {ov uv:AV} (hcs:cs = [.int .i64 b.depth,ov,uv]) (ho:a2U b.ops ov):O1 ap 35 [.mp B 0 0] S = some (.ret (.bool (X4 b k.first)),S):=by
 have e1:cs[1]? = some ov:=by rw [hcs]; rfl
 rw [y5.call]
 refine O7 ?_ rfl rfl (O5.refl _ _)
 rw [y5.b_eq]
 refine (rdM hN.hB (k:=2) rfl).trans ?_
 refine (rdP hp e1).trans ?_
 refine (br ho.1).trans ?_
 unfold X4
 have tail:∀ q,y5.K0 (.mp B 0 0) ov q S = some ⟨.ret (.bool (if q = true then false else decide (k.first = wr (((b.ops.length:Nat):Int) - 1)))),none,S⟩:=fun q=>by
  rw [y5.K0_e]
  cases q with
  | true=>exact bt rfl
  | false=>
   refine (bf rfl).trans ?_
   refine (rdM hN.hB (k:=12) rfl).trans ?_
   refine (br ho.1).trans ?_
   exact br (aI _)
 by_cases h1:b.ops.length = 1
 ·rw [if_pos h1]
  obtain ⟨cs2,hia,lv,rfl,hlv⟩:=ho.2.2.2 0 (by omega)
  refine (bt (O4 (by omega))).trans ?_
  refine (br hia).trans ?_
  refine (br (show fa 0 1 (.ip (oc (b.ops.getD 0 default) lv)) = some (.ip [.int .i64 (b.ops.getD 0 default).k]) from rfl)).trans ?_
  refine (br (l1 _ _)).trans ?_
  exact br (aI _)
 ·rw [if_neg h1]
  refine (bf (O0 (by omega))).trans ?_
  refine (br ho.1).trans ?_
  by_cases h0:b.ops.length = 0
  ·rw [if_pos h0]
   refine (bt (O4 (by omega))).trans ?_
   rw [tail,if_pos rfl]
  ·rw [if_neg h0]
   obtain ⟨cs2,hia,lv,rfl,hlv⟩:=ho.2.2.2 0 (by omega)
   refine (bf (O0 (by omega))).trans ?_
   refine (br hia).trans ?_
   refine (br (show fa 0 1 (.ip (oc (b.ops.getD 0 default) lv)) = some (.ip [.int .i64 (b.ops.getD 0 default).k]) from rfl)).trans ?_
   refine (br (l1 _ _)).trans ?_
   refine (br (aI _)).trans ?_
   rw [tail]
   by_cases h3:(b.ops.getD 0 default).k = 3
   ·rw [O4 h3,if_neg (show ¬ ((b.ops.getD 0 default).k ≠ 3) from fun h=>h h3)]; rfl
   ·rw [O0 h3,if_pos (show (b.ops.getD 0 default).k ≠ 3 from h3)]; rfl
theorem end_spec (hN:Now P V A O B k g lets ar S) (hl0:0 < lets.length) (hl1:lets.length ≤ 1050000) {b:BlA} {cs:List AV} (hp:Ptr P S k.bp cs) {ov uv:AV} (hcs:cs = [.int .i64 b.depth,ov,uv]) (ho:a2U b.ops ov) (hu:W4 b.upd uv) (hul:b.upd.length ≤ 1050000) (n:Int) :
  g7.F0 (.mp B 0 0) n n S = some ⟨.ret (tup2 (endA b k lets)),none,S⟩:=by
 have e1:cs[1]? = some ov:=by rw [hcs]; rfl
 have e2:cs[2]? = some uv:=by rw [hcs]; rfl
 rw [g7.F0_e]
 refine (bf (O0 (by omega))).trans ?_
 refine (rdM hN.hB (k:=9) rfl).trans ?_
 refine (br (show P3 (.ms O g 0 lets.length 1) = some lets.length from rfl)).trans ?_
 have upd:∀ q,q = decide (k.inn.loop = true∧X4 b k.first = false)→g7.N3 (.mp B 0 0) q S = some ⟨.ret (tup2 (if k.inn.loop = true∧X4 b k.first = false then (0,2206) else updGo b.ops.length none b.upd 0)),none,S⟩:=by
  intro q hq
  rw [g7.N3_e]
  by_cases h:k.inn.loop = true∧X4 b k.first = false
  ·rw [O4 h] at hq
   subst hq
   rw [if_pos h]
   exact bt rfl
  ·rw [O0 h] at hq
   subst hq
   rw [if_neg h]
   refine (bf rfl).trans ?_
   refine (rdM hN.hB (k:=2) rfl).trans ?_
   refine (rdP hp e2).trans ?_
   refine (br hu.1).trans ?_
   exact upd_loop hN hp hcs ho hu hul b.upd.length 0 (by omega)
 have shp:∀ q,q = decide (1 < lets.length∨0 < Q2 lets)→g7.N9 (.mp B 0 0) q S = some ⟨.ret (tup2 (endA b k lets)),none,S⟩:=by
  intro q hq
  rw [g7.N9_e]
  unfold endA
  by_cases h:1 < lets.length∨0 < Q2 lets
  ·rw [O4 h] at hq
   subst hq
   rw [if_pos h]
   refine (bt rfl).trans ?_
   refine (rdM hN.hB (k:=2) rfl).trans ?_
   refine (rdP hp e1).trans ?_
   exact br ho.1
  ·rw [O0 h] at hq
   subst hq
   rw [if_neg h]
   refine (bf rfl).trans ?_
   refine (rdI hN.hB (j:=3) (k:=1) rfl).trans ?_
   refine (br (gB _)).trans ?_
   refine gs.trans ?_
   cases hlp:k.inn.loop with
   | false=>
    refine (bf rfl).trans ?_
    have:=upd false (by simp [hlp])
    rw [hlp] at this
    exact this
   | true=>
    refine (bt rfl).trans ?_
    refine (cr (single_spec hN hp hcs ho)).trans ?_
    refine (br (aB _)).trans ?_
    have:=upd (!X4 b k.first) (by rw [hlp]; cases X4 b k.first <;> simp)
    rw [hlp] at this
    exact this
 by_cases h1:1 < lets.length
 ·refine (bt (O4 (by omega))).trans ?_
  exact shp true (by simp [h1])
 ·refine (bf (O0 (by omega))).trans ?_
  refine (cr (a0E hN hl0 hl1)).trans ?_
  refine (br (show O2 (.mp O g (lets.length - 1)) = some _ from rfl)).trans ?_
  refine (br (a1M hN hl0)).trans ?_
  refine (br (aI _)).trans ?_
  exact shp _ (by simp [h1])
theorem ops_loop (hs:W2 p) (hm:∀ row n m,sx = .is row n (.cut m)→n ≤ m) {b:BlA} {bp:AV} {cs:List AV} {ov uv:AV} (hcs:cs = [.int .i64 b.depth,ov,uv]) (ho:a2U b.ops ov) (hu:W4 b.upd uv) (hul:b.upd.length ≤ 1050000) (hol:b.ops.length ≤ 1049000) (hll:∀ j,(b.ops.getD j default).l.length ≤ 1050000):∀ (m i:Nat) (k:Bk) (g:Nat) (lets:List Int) (ar:List Ar) (S:Sto),i + m = b.ops.length→Prg p P tx cd sx bl S→Now P V A O B k g lets ar S→k.bp = bp→Ptr P S bp cs→0 < lets.length→lets.length ≤ i + 1→ar.length = p.blocks.length→0 ≤ k.num →
  ∃ S' g' k' lets',g7.F0 (.mp B 0 0) ((b.ops.length:Nat):Int) ((i:Nat):Int) S = some ⟨.ret (tup2 (match (S9 p (b.ops.drop i) i k lets ar).1 with | some e=>e | none=>endA b (S9 p (b.ops.drop i) i k lets ar).2.1 (S9 p (b.ops.drop i) i k lets ar).2.2.1)),none,S'⟩∧O5 (V + 1) S S'∧((S9 p (b.ops.drop i) i k lets ar).1 = none→Now P V A O B k' g' lets' (S9 p (b.ops.drop i) i k lets ar).2.2.2 S'):=by
 intro m
 induction m with
 | zero=>
  intro i k g lets ar S him H hN hbp hp hl0 hl1 har hnum
  have hi:i = b.ops.length:=by omega
  subst hi
  subst hbp
  rw [List.drop_length]
  exact ⟨S,g,k,lets,end_spec hN hl0 (by omega) hp hcs ho hu hul _,O5.refl _ _,fun _=>hN⟩
 | succ m ih=>
  intro i k g lets ar S him H hN hbp hp hl0 hl1 har hnum
  have hi:i < b.ops.length:=by omega
  have e1:cs[1]? = some ov:=by rw [hcs]; rfl
  have w1:IntKind.wrap .i64 (((i:Nat):Int) + 1) = ((i + 1:Nat):Int):=w64 _ (by omega) (by omega)
  have hd:b.ops.drop i = b.ops.getD i default :: b.ops.drop (i + 1):=by
   rw [List.drop_eq_getElem_cons hi,List.getD_eq_getElem?_getD,List.getElem?_eq_getElem hi]; rfl
  obtain ⟨cs2,hia,lv,rfl,hlv⟩:=ho.2.2.2 i hi
  have h1:=hN.n1
  subst hbp
  obtain ⟨S1,g1,c1,c2,c3⟩:=op_spec H hs hN hl0 (by omega) har hnum hm hlv (hll i) i
  have pre:g7.F0 (.mp B 0 0) ((b.ops.length:Nat):Int) ((i:Nat):Int) S = (bif !decide (((opE p i (b.ops.getD i default) k lets ar:Nat):Int) = 0) then some ⟨.ret (.tup [.int .i64 ((i:Nat):Int), .int .i64 ((opE p i (b.ops.getD i default) k lets ar:Nat):Int)]),none,S1⟩ else g7.F0 (.mp B 0 0) ((b.ops.length:Nat):Int) ((i + 1:Nat):Int) S1):=by
   rw [g7.F0_e]
   refine (bt (O4 (by omega))).trans ?_
   refine (rdM hN.hB (k:=2) rfl).trans ?_
   refine (rdP hp e1).trans ?_
   refine (br hia).trans ?_
   refine (cr c1).trans ?_
   refine (br (aI _)).trans ?_
   rw [w1]
  rw [hd,pre]
  simp only [S9]
  by_cases hE:opE p i (b.ops.getD i default) k lets ar = 0
  ·obtain ⟨d1,d2,d3,d4⟩:=c3 hE
   obtain ⟨l1',l2',l3',l4',l5'⟩:=a3b (p:=p) (i:=i) (k:=k) hl0 (fun h6=>(Y2 d3 h6).1)
   have hp1:Ptr P S1 k.bp cs:=hp.mono (V1 c2 (by omega))
   obtain ⟨S',g',k',lets',f1,f2,f3⟩:=ih (i + 1) _ g1 _ _ S1 (by omega) (H.mono (V1 c2 (by omega))) d1 l5' hp1 l1' (by omega) (by rw [a1R]; exact har) (by rw [l3']; exact hnum)
   refine ⟨S',g',k',lets',?_,c2.trans f2,?_⟩
   ·refine (bf (by rw [hE]; rfl)).trans ?_
    rw [if_pos hE]
    exact f1
   ·rw [if_pos hE]
    exact f3
  ·refine ⟨S1,g,k,lets,?_,c2,?_⟩
   ·refine (bt (by simp only [Bool.not_eq_true',decide_eq_false_iff_not]; omega)).trans ?_
    rw [if_neg hE]
    rfl
   ·rw [if_neg hE]
    intro h
    cases h
theorem look_specB (H:Prg p P tx cd sx bl S) (hs:W2 p) (hN:Now P V A O B k g lets ar S) (hm:∀ row n m,sx = .is row n (.cut m)→n ≤ m) {b:BlA} {cs:List AV} (hp:Ptr P S k.bp cs) (hb:BlC b cs) (hul:b.upd.length ≤ 1050000) (hol:b.ops.length ≤ 1049000) (hll:∀ j,(b.ops.getD j default).l.length ≤ 1050000) (hl:lets.length = 1) (har:ar.length = p.blocks.length) (hnum:0 ≤ k.num) :
  ∃ S' g' k' lets',O1 ap 17 [.mp B 0 0] S = some (.ret (tup2 (V8 p b k lets ar).1),S')∧O5 (V + 1) S S'∧((V8 p b k lets ar).1.2 = 0→Now P V A O B k' g' lets' (V8 p b k lets ar).2 S'):=by
 obtain ⟨ov,uv,hcs,ho,hu⟩:=hb
 have e0:cs[0]? = some (.int .i64 b.depth):=by rw [hcs]; rfl
 have e1:cs[1]? = some ov:=by rw [hcs]; rfl
 suffices hb:∃ S' g' k' lets',g7.b (.mp B 0 0) S = some ⟨.ret (tup2 (V8 p b k lets ar).1),none,S'⟩∧O5 (V + 1) S S'∧((V8 p b k lets ar).1.2 = 0→Now P V A O B k' g' lets' (V8 p b k lets ar).2 S') by
  obtain ⟨S',g',k',lets',b1,b2⟩:=hb
  refine ⟨S',g',k',lets',?_,b2⟩
  rw [g7.call,b1]
  rfl
 have start:g7.b (.mp B 0 0) S = g7.I0 (.mp B 0 0) (decide (0 < k.num∧k.inn.owned = false)) S:=by
  rw [g7.b_eq]
  refine (rdM hN.hB (k:=1) rfl).trans ?_
  refine (br (aI _)).trans ?_
  by_cases h0:0 < k.num
  ·refine (bt (O4 h0)).trans ?_
   refine (rdI hN.hB (j:=3) (k:=0) rfl).trans ?_
   refine (br (aB _)).trans ?_
   congr 1
   cases k.inn.owned <;> simp [h0]
  ·refine (bf (O0 h0)).trans ?_
   rw [O0 (show ¬ (0 < k.num∧k.inn.owned = false) from fun h=>h0 h.1)]
 rw [start,g7.I0_e]
 unfold V8
 by_cases h1:0 < k.num∧k.inn.owned = false
 ·simp only [if_pos h1]
  exact ⟨S,g,k,lets,bt (O4 h1),O5.refl _ _,fun h=>by cases h⟩
 simp only [if_neg h1]
 by_cases h2:b.depth = k.inn.depth
 ·simp only [if_neg (show ¬ (b.depth ≠ k.inn.depth) from fun h=>h h2)]
  obtain ⟨S',g',k',lets',f1,f2,f3⟩:=ops_loop hs hm hcs ho hu hul hol hll b.ops.length 0 k g lets ar S (by omega) H hN rfl hp (by omega) (by omega) har hnum
  rw [List.drop_zero] at f1 f3
  refine ⟨S',g',k',lets',?_,f2,?_⟩
  ·refine (bf (O0 h1)).trans ?_
   refine (rdM hN.hB (k:=2) rfl).trans ?_
   refine (rdP hp e0).trans ?_
   refine (rdI hN.hB (j:=3) (k:=2) rfl).trans ?_
   refine (br (aI _)).trans ?_
   refine (br (aI _)).trans ?_
   refine (bf (by rw [O4 h2]; rfl)).trans ?_
   refine (rdM hN.hB (k:=2) rfl).trans ?_
   refine (rdP hp e1).trans ?_
   refine (br ho.1).trans ?_
   refine f1.trans ?_
   split <;> rfl
  ·intro h
   cases hg:(S9 p b.ops 0 k lets ar).1 with
   | some e=>
    exfalso
    rw [hg] at h
    exact absurd h (opsGo_err hg)
   | none=>
    exact f3 hg
 ·simp only [if_pos (show b.depth ≠ k.inn.depth from h2)]
  refine ⟨S,g,k,lets,?_,O5.refl _ _,fun h=>by cases h⟩
  refine (bf (O0 h1)).trans ?_
  refine (rdM hN.hB (k:=2) rfl).trans ?_
  refine (rdP hp e0).trans ?_
  refine (rdI hN.hB (j:=3) (k:=2) rfl).trans ?_
  refine (br (aI _)).trans ?_
  refine (br (aI _)).trans ?_
  exact bt (by rw [O0 h2]; rfl)
end
end Go.Proofs.YtcgepgahgihojaaGreatDoor
namespace Go.Proofs.YtcgepgahgihojaaGreatDoor
open Go.St Go.Lib
set_option linter.unusedVariables false
set_option linter.unusedSimpArgs false
def Y3 (f:Nat→Bool):Nat→Nat→Option Nat
 | 0,_=>none
 | m + 1,i=>if f i = true then some i else Y3 f m (i + 1)
def tagOf:Fo→ByteArray
 | .nil=>⟨#[]⟩
 | .cons t _ _ _ _=>t
noncomputable def a1q (p:PrA) (i:Nat):Bool:=decide (16384 ≤ i) || !okT (p.texts.getD i ⟨#[]⟩)
def a1j (p:PrA) (i:Nat):Bool:=decide (8192 ≤ i) || !decide (ckC (p.codes.getD i []) ((p.texts.length:Nat):Int) 64 = 0)
noncomputable def a0m (p:PrA) (i:Nat):Bool:=decide (4096 ≤ i) || (decide (tagOf (nth p.statics i) = ⟨#[]⟩) || !decide ((look (nth p.statics i)).2.2 = 0))
noncomputable def statA (p:PrA) (m i:Nat):Nat × Nat:=match Y3 (a0m p) m i with | some j=>(j,2202) | none=>(0,0)
noncomputable def codeA (p:PrA) (m i:Nat):Nat × Nat:=match Y3 (a1j p) m i with | some j=>(j,2201) | none=>statA p p.statics.len 0
noncomputable def textA (p:PrA) (m i:Nat):Nat × Nat:=match Y3 (a1q p) m i with | some j=>(j,2200) | none=>codeA p p.codes.length 0
noncomputable def Y4 (p:PrA):Nat × Nat:=textA p p.texts.length 0
theorem stat_at {ts:Fo} {v:AV} (h:FoM ts v) {i:Nat} (hi:i < ts.len):∃ tag text a kd,ia 4 v (.int .i64 ((i:Nat):Int)) = some (.ip [.str tag, .str text,a,kd])∧tagOf (nth ts i) = tag∧a.isCell = true∧kd.isCell = true∧a.cells = [a]∧kd.cells = [kd]∧FoV (nth ts i) (.is [.str tag, .str text,a,kd] 1 .full):=by
 rcases h with ⟨h,_⟩ | ⟨row,tok,rfl,_,hr⟩
 ·omega
 ·obtain ⟨n1,n2⟩:=nth_row ts row i hr hi
  have hl:=(a28 ts i hi).1
  have hrow:=(n2 []).2
  cases hn:nth ts i with
  | nil=>rw [hn] at hl; simp [Fo.len] at hl
  | cons tag text ats kids rest=>
   rw [hn] at hrow hl
   obtain ⟨a,kd,r,e,h2,h3,h4⟩:=hrow
   have hrest:rest = .nil:=len_nil (by simpa [Fo.len] using hl)
   subst hrest
   have hac:a.isCell = true∧a.cells = [a]:=by rcases h2 with ⟨_,rfl⟩ | ⟨_,_,rfl⟩ <;> exact ⟨rfl,rfl⟩
   have hkc:kd.isCell = true∧kd.cells = [kd]:=by rcases h3 with ⟨_,rfl⟩ | ⟨_,_,rfl,_⟩ <;> exact ⟨rfl,rfl⟩
   refine ⟨tag,text,a,kd,?_,rfl,hac.1,hkc.1,hac.2,hkc.2, .inr ⟨_, .full,rfl,a,kd,[],rfl,h2,h3,trivial⟩⟩
   simp only [ia,P9 hi,Option.bind_some,n1,if_true]
   rw [e]
   rfl
section
variable {p:PrA} {P V A:Nat} {tx cd sx bl q:AV} {S:Sto} {ar:List Ar}
theorem stat_loop (hT:FoM p.statics sx) (hs:W2 p) (n0:Nat):∀ (m i:Nat) (S:Sto),i + m = p.statics.len→n0 ≤ S.length→∃ S',d7.F1 sx ((p.statics.len:Nat):Int) ((i:Nat):Int) S = some ⟨.ret (tup2 (statA p m i)),none,S'⟩∧O5 n0 S S':=by
 have hsl:=a1b p.statics
 have hss:=hs.s
 intro m
 induction m with
 | zero=>
  intro i S him hn
  refine ⟨S,?_,O5.refl _ _⟩
  rw [d7.F1_e]
  exact bf (O0 (by omega))
 | succ m ih=>
  intro i S him hn
  have hi:i < p.statics.len:=by omega
  have w1:IntKind.wrap .i64 (((i:Nat):Int) + 1) = ((i + 1:Nat):Int):=w64 _ (by omega) (by omega)
  obtain ⟨tag,text,a,kd,hia,htag,hac,hkc,hac2,hkc2,hfo⟩:=stat_at hT hi
  obtain ⟨S1,hS1⟩:∃ S1,S1 = S ++ [Ob.cells 0 [.str tag, .str text,a,kd] 0]:=⟨_,rfl⟩
  have hk1:O5 n0 S S1:=by rw [hS1]; exact O5.app hn
  have hl1:S.length ≤ S1.length:=by rw [hS1]; simp
  have hst:sto 4 (S ++ [Ob.cells 0 [.str ⟨#[]⟩, .str ⟨#[]⟩, .nils, .nils] 0]) (.mp S.length 0 0) (.agg [.str tag, .str text,a,kd]) = some S1:=by
   rw [hS1]
   refine a3P (cs:=[.str ⟨#[]⟩, .str ⟨#[]⟩, .nils, .nils]) (cs':=[.str tag, .str text,a,kd]) ?_ rfl rfl
   simp only [List.all_cons,List.all_nil,hac,hkc,Bool.and_true]
   rfl
  have g0:ld false 1 S1 (.mp S.length 0 0) = some (.str tag):=by rw [hS1]; exact O8 (n:=0) (g:=0) (fz:=0) P6 rfl
  have g4:ld true 4 S1 (.mp S.length 0 0) = some (.agg [.str tag, .str text,a,kd]):=by rw [hS1]; exact Z7 (g:=0) (fz:=0) P6 rfl
  have hlit:(S8 false 1 4 (O9 (fun i=>some (i * 4,4)) [.str ⟨#[]⟩, .str ⟨#[]⟩, .nils, .nils] [(0, .agg [.str tag, .str text,a,kd])]) S1) = some (.is [.str tag, .str text,a,kd] 1 .full,S1):=by
   have:(O9 (fun i=>some (i * 4,4)) [.str ⟨#[]⟩, .str ⟨#[]⟩, .nils, .nils] [(0, .agg [.str tag, .str text,a,kd])]) = some [.str tag, .str text,a,kd]:=by
    have e:(AV.agg [.str tag, .str text,a,kd]).cells = [.str tag, .str text,a,kd]:=rfl
    have e2:([AV.str tag, .str text,a,kd]).all AV.isCell = true:=by
     simp only [List.all_cons,List.all_nil,hac,hkc,Bool.and_true]
     rfl
    simp only [O9,e,e2]
    rfl
   rw [this]
   rfl
  have hszi:=(a28 p.statics i hi).2
  have hck:=check_spec hfo (by omega) S1
  have out:∀ b,b = a0m p i→∃ S',d7.J7 ((i:Nat):Int) sx ((p.statics.len:Nat):Int) ((i:Nat):Int) b S1 = some ⟨.ret (tup2 (statA p (m + 1) i)),none,S'⟩∧O5 n0 S S':=by
   intro b hb
   rw [d7.J7_e,w1]
   unfold statA
   simp only [Y3]
   rw [←hb]
   cases b with
   | true=>exact ⟨S1,bt rfl,hk1⟩
   | false=>
    obtain ⟨S',e1,e2⟩:=ih (i + 1) S1 (by omega) (by omega)
    exact ⟨S',(bf rfl).trans e1,hk1.trans e2⟩
  rw [d7.F1_e]
  refine via (bt (O4 (by omega))) ?_
  refine via (br hia) ?_
  refine via (br (show ld true 4 S (.ip [.str tag, .str text,a,kd]) = some (.agg [.str tag, .str text,a,kd]) from rfl)) ?_
  refine via (br hst) ?_
  by_cases h1:4096 ≤ i
  ·refine via (bt (O4 (by omega))) ?_
   exact out true (by unfold a0m; rw [O4 h1]; rfl)
  ·refine via (bf (O0 (by omega))) ?_
   refine via (br g0) ?_
   refine via (br (aS _)) ?_
   by_cases h2:tag = ⟨#[]⟩
   ·refine via (bt (O4 h2)) ?_
    exact out true (by unfold a0m; rw [htag,O4 h2,O0 h1]; rfl)
   ·refine via (bf (O0 h2)) ?_
    refine via (br g4) ?_
    refine via (br hlit) ?_
    refine via (cr hck) ?_
    refine via (br (aI _)) ?_
    refine out _ ?_
    unfold a0m
    rw [htag,O0 h2,O0 h1,Bool.false_or,Bool.false_or]
    congr 1
    exact decide_eq_decide.2 (by omega)
theorem codes_loop2 (H:Prg p P tx cd sx bl S) (hs:W2 p) (hV:S[V]? = some (.cells 0 [.mp P 0 0,q] 0)) (n0:Nat) (hn0:n0 ≤ S.length):∀ (m i:Nat),i + m = p.codes.length→∃ S',d7.F0 (.mp V 0 0) cd ((p.codes.length:Nat):Int) ((i:Nat):Int) S = some ⟨.ret (tup2 (codeA p m i)),none,S'⟩∧O5 n0 S S':=by
 have hsc:=hs.c
 intro m
 induction m with
 | zero=>
  intro i him
  obtain ⟨S',e1,e2⟩:=stat_loop H.hS hs n0 p.statics.len 0 S (by omega) hn0
  refine ⟨S',?_,e2⟩
  rw [d7.F0_e]
  refine (bf (O0 (by omega))).trans ?_
  refine (rdM hV (k:=0) rfl).trans ?_
  refine (rdM H.hP (k:=2) rfl).trans ?_
  refine (br H.hS.fov.len).trans ?_
  exact e1
 | succ m ih=>
  intro i him
  have hi:i < p.codes.length:=by omega
  have w1:IntKind.wrap .i64 (((i:Nat):Int) + 1) = ((i + 1:Nat):Int):=w64 _ (by omega) (by omega)
  obtain ⟨cs,hia,cw,rfl,hcw⟩:=H.hC.2.2.2 i hi
  have out:∀ b,b = a1j p i→∃ S',d7.F3 (.mp V 0 0) ((i:Nat):Int) cd ((p.codes.length:Nat):Int) ((i:Nat):Int) b S = some ⟨.ret (tup2 (codeA p (m + 1) i)),none,S'⟩∧O5 n0 S S':=by
   intro b hb
   rw [d7.F3_e,w1]
   unfold codeA
   simp only [Y3]
   rw [←hb]
   cases b with
   | true=>exact ⟨S,bt rfl,O5.refl _ _⟩
   | false=>
    obtain ⟨S',e1,e2⟩:=ih (i + 1) (by omega)
    exact ⟨S',(bf rfl).trans e1,e2⟩
  rw [d7.F0_e]
  refine via (bt (O4 (by omega))) ?_
  refine via (br hia) ?_
  refine via (br (l1 _ _)) ?_
  by_cases h1:8192 ≤ i
  ·refine via (bt (O4 (by omega))) ?_
   exact out true (by unfold a1j; rw [O4 h1]; rfl)
  ·refine via (bf (O0 (by omega))) ?_
   refine via (rdM hV (k:=0) rfl) ?_
   refine via (rdM H.hP (k:=0) rfl) ?_
   refine via (br H.hT.1) ?_
   refine via (cr (a1c hcw (by have:=hs.cs i; omega) _ _ S)) ?_
   refine via (br (aI _)) ?_
   refine out _ ?_
   unfold a1j
   rw [O0 h1,Bool.false_or]
   congr 1
   exact decide_eq_decide.2 (by omega)
theorem texts_loop2 (H:Prg p P tx cd sx bl S) (hs:W2 p) (hV:S[V]? = some (.cells 0 [.mp P 0 0,q] 0)) (n0:Nat) (hn0:n0 ≤ S.length):∀ (m i:Nat),i + m = p.texts.length→∃ S',d7.F4 (.mp V 0 0) tx ((p.texts.length:Nat):Int) ((i:Nat):Int) S = some ⟨.ret (tup2 (textA p m i)),none,S'⟩∧O5 n0 S S':=by
 have hsc:=hs.t
 intro m
 induction m with
 | zero=>
  intro i him
  obtain ⟨S',e1,e2⟩:=codes_loop2 H hs hV n0 hn0 p.codes.length 0 (by omega)
  refine ⟨S',?_,e2⟩
  rw [d7.F4_e]
  refine (bf (O0 (by omega))).trans ?_
  refine (rdM hV (k:=0) rfl).trans ?_
  refine (rdM H.hP (k:=1) rfl).trans ?_
  refine (br H.hC.1).trans ?_
  exact e1
 | succ m ih=>
  intro i him
  have hi:i < p.texts.length:=by omega
  have w1:IntKind.wrap .i64 (((i:Nat):Int) + 1) = ((i + 1:Nat):Int):=w64 _ (by omega) (by omega)
  obtain ⟨cs,hia,rfl⟩:=H.hT.2.2.2 i hi
  have out:∀ b,b = a1q p i→∃ S',d7.L6 (.mp V 0 0) ((i:Nat):Int) tx ((p.texts.length:Nat):Int) ((i:Nat):Int) b S = some ⟨.ret (tup2 (textA p (m + 1) i)),none,S'⟩∧O5 n0 S S':=by
   intro b hb
   rw [d7.L6_e,w1]
   unfold textA
   simp only [Y3]
   rw [←hb]
   cases b with
   | true=>exact ⟨S,bt rfl,O5.refl _ _⟩
   | false=>
    obtain ⟨S',e1,e2⟩:=ih (i + 1) (by omega)
    exact ⟨S',(bf rfl).trans e1,e2⟩
  rw [d7.F4_e]
  refine via (bt (O4 (by omega))) ?_
  refine via (br hia) ?_
  refine via (br (l1 _ _)) ?_
  by_cases h1:16384 ≤ i
  ·refine via (bt (O4 (by omega))) ?_
   exact out true (by unfold a1q; rw [O4 h1]; rfl)
  ·refine via (bf (O0 (by omega))) ?_
   refine via (cr (a3t _ (by have:=hs.ts i; omega) S)) ?_
   refine via (br (aB _)) ?_
   exact out _ (by unfold a1q; rw [O0 h1,Bool.false_or])
theorem lists_spec (H:Prg p P tx cd sx bl S) (hs:W2 p) (hV:S[V]? = some (.cells 0 [.mp P 0 0,q] 0)):O1 ap 16 [.mp V 0 0] S = some (.ret (tup2 (Y4 p)),S):=by
 obtain ⟨S',e1,e2⟩:=texts_loop2 H hs hV S.length (Nat.le_refl _) p.texts.length 0 (by omega)
 rw [d7.call]
 refine O7 (st':=S') ?_ rfl rfl e2
 rw [d7.b_eq]
 refine (rdM hV (k:=0) rfl).trans ?_
 refine (rdM H.hP (k:=0) rfl).trans ?_
 refine (br H.hT.1).trans ?_
 exact e1
end
def Bk.wb (k:Bk) (x:AV):Bk:={ k with bp:=x }
theorem doneK_wb (p:PrA) (i:Nat) (o:OpA) (k:Bk) (l:List Int) (x:AV):Q6 p i o (k.wb x) l = ((Q6 p i o k l).1.wb x,(Q6 p i o k l).2):=by
 unfold Q6
 repeat' split
 all_goals first | rfl | (exfalso; simp_all [Bk.wb]; done)
theorem arGo_wb (k:Bk) (l:List Int) (o:OpA) (x:AV):∀ (bs:List (Int × Int)) (ar:List Ar),a2u (k.wb x) l o ar bs = a2u k l o ar bs:=by
 intro bs
 induction bs with
 | nil=>intro ar; rfl
 | cons b r ih=>intro ar; simp only [a2u]; rw [ih]; rfl
theorem opE_wb (p:PrA) (i:Nat) (o:OpA) (k:Bk) (l:List Int) (ar:List Ar) (x:AV):opE p i o (k.wb x) l ar = opE p i o k l ar:=rfl
theorem opsGo_wb (p:PrA) (x:AV):∀ (os:List OpA) (i:Nat) (k:Bk) (l:List Int) (ar:List Ar),S9 p os i (k.wb x) l ar = ((S9 p os i k l ar).1,(S9 p os i k l ar).2.1.wb x,(S9 p os i k l ar).2.2.1,(S9 p os i k l ar).2.2.2):=by
 intro os
 induction os with
 | nil=>intro i k l ar; rfl
 | cons o r ih=>
  intro i k l ar
  simp only [S9,opE_wb,doneK_wb,arGo_wb]
  by_cases h:opE p i o k l ar = 0
  ·simp only [h,if_true]
   exact ih _ _ _ _
  ·simp only [h,if_false]
theorem look_wb (p:PrA) (b:BlA) (k:Bk) (l:List Int) (ar:List Ar) (x:AV):V8 p b (k.wb x) l ar = V8 p b k l ar:=by
 unfold V8
 rw [opsGo_wb]
 rfl
def a0J (i:Nat) (bp:AV) (a:Ar):Bk:=⟨((i:Nat):Int),bp,a,a.depth,-2,⟨#[]⟩,-1⟩
noncomputable def blkGo (p:PrA):List BlA→Nat→List Ar→Nat × Nat × Nat
 | [],_,_=>(0,0,0)
 | b :: r,i,ar=>if (V8 p b (a0J i .nilp (ar.getD i default)) [0] ar).1.2 = 0 then blkGo p r (i + 1) (V8 p b (a0J i .nilp (ar.getD i default)) [0] ar).2
   else (i,(V8 p b (a0J i .nilp (ar.getD i default)) [0] ar).1.1,(V8 p b (a0J i .nilp (ar.getD i default)) [0] ar).1.2)
def arZ:Ar:=⟨false,false,0,0,0⟩
def ar0 (n:Nat):List Ar:=(List.replicate n arZ).set 0 ⟨false,false,1,0,0⟩
noncomputable def verA (p:PrA):Nat × Nat × Nat:=
 if (Y4 p).2 ≠ 0 then (0,(Y4 p).1,(Y4 p).2)
 else if p.blocks.length = 0∨8192 < p.blocks.length then (0,0,2205)
 else blkGo p p.blocks 0 (ar0 p.blocks.length)
def tup3 (e:Nat × Nat × Nat):AV := .tup [.int .i64 ((e.1:Nat):Int), .int .i64 ((e.2.1:Nat):Int), .int .i64 ((e.2.2:Nat):Int)]
theorem opsGo_len {p:PrA}:∀ (os:List OpA) (i:Nat) (k:Bk) (l:List Int) (ar:List Ar),(S9 p os i k l ar).2.2.2.length = ar.length:=by
 intro os
 induction os with
 | nil=>intro i k l ar; rfl
 | cons o r ih=>
  intro i k l ar
  simp only [S9]
  split
  ·rw [ih,a1R]
  ·rfl
theorem lookA_len {p:PrA} {b:BlA} {k:Bk} {l:List Int} {ar:List Ar}:(V8 p b k l ar).2.length = ar.length:=by
 unfold V8
 split
 ·rfl
 ·split
  ·rfl
  ·split <;> exact opsGo_len _ _ _ _ _
theorem ar_ld {S:Sto} {A:Nat} {ar:List Ar} (h:S[A]? = some (.cells 0 (P4 ar) 0)) {i:Nat} (hi:i < ar.length):ld true 5 S (.mp A 0 (i * 5)) = some (.agg (arc (ar.getD i default))):=by
 have hl:=a4q ar
 have h1:i * 5 + 5 ≤ (P4 ar).length:=by omega
 have ht:(P4 (ar.take i)).length = i * 5:=by rw [a4q,List.length_take]; congr 1; omega
 have hsp:P4 ar = P4 (ar.take i) ++ (arc (ar.getD i default) ++ P4 (ar.drop (i + 1))):=by
  rw [show arc (ar.getD i default) ++ P4 (ar.drop (i + 1)) = P4 (ar.getD i default :: ar.drop (i + 1)) from rfl,←ar_app,←ar_split hi]
 have h2:((P4 ar).drop (i * 5)).take 5 = arc (ar.getD i default):=by
  rw [hsp,←ht,List.drop_left]
  rfl
 simp only [ld,V7,h,h1,true_and,if_true,Option.bind_some,h2]
 rfl
section
variable {p:PrA} {P V A:Nat} {tx cd sx bl:AV}
theorem blk_loop (hs:W2 p) (hm:∀ row n m,sx = .is row n (.cut m)→n ≤ m):∀ (m i:Nat) (ar:List Ar) (S:Sto),i + m = p.blocks.length→Prg p P tx cd sx bl S→S[V]? = some (.cells 0 [.mp P 0 0, .ms A 0 0 ar.length 5] 0)→S[A]? = some (.cells 0 (P4 ar) 0)→P < V→V < A→ar.length = p.blocks.length →
  ∃ S',p7.K1 P V ((p.blocks.length:Nat):Int) ((i:Nat):Int) S = some ⟨.ret (tup3 (blkGo p (p.blocks.drop i) i ar)),none,S'⟩∧O5 P S S':=by
 have hsb:=hs.b
 intro m
 induction m with
 | zero=>
  intro i ar S him H hV hA n1 n2 har
  have hi:i = p.blocks.length:=by omega
  subst hi
  refine ⟨S,?_,O5.refl _ _⟩
  rw [p7.K1_e,List.drop_length]
  exact bf (O0 (by omega))
 | succ m ih=>
  intro i ar S him H hV hA n1 n2 har
  have hi:i < p.blocks.length:=by omega
  have hAl:=(List.getElem?_eq_some_iff.1 hA).1
  have w1:IntKind.wrap .i64 (((i:Nat):Int) + 1) = ((i + 1:Nat):Int):=w64 _ (by omega) (by omega)
  have hd:p.blocks.drop i = p.blocks.getD i default :: p.blocks.drop (i + 1):=by
   rw [List.drop_eq_getElem_cons hi,List.getD_eq_getElem?_getD,List.getElem?_eq_getElem hi]; rfl
  obtain ⟨bp,cs,hib,hbc,hbc2,hptr,hblc⟩:=H.hB.2.2.2 i hi
  obtain ⟨S1,hS1⟩:∃ S1,S1 = S ++ [Ob.cells 0 [.int .i64 0] 0]:=⟨_,rfl⟩
  have hl1:S1.length = S.length + 1:=by rw [hS1]; simp
  have up1:∀ (j:Nat) (o:Ob),S[j]? = some o→S1[j]? = some o:=by rw [hS1]; exact a0B
  let a:=ar.getD i default
  obtain ⟨S2,hS2⟩:∃ S2,S2 = S1 ++ [Ob.cells 0 (T0 V S.length 0 [0] (a0J i bp a)) 0]:=⟨_,rfl⟩
  have up2:∀ (j:Nat) (o:Ob),S1[j]? = some o→S2[j]? = some o:=by rw [hS2]; exact a0B
  have hPl:=(List.getElem?_eq_some_iff.1 H.hP).1
  have hk2:O5 (P + 1) S S2:=by rw [hS2,hS1,List.append_assoc]; exact O5.app (by omega)
  have hO:S1[S.length]? = some (.cells 0 [.int .i64 0] 0):=by rw [hS1]; simp
  have hN:Now P V A S.length S1.length (a0J i bp a) 0 [0] ar S2:=
   ⟨up2 _ _ (up1 _ _ hV),up2 _ _ (up1 _ _ hA),by rw [hS2]; simp,⟨[],up2 _ _ hO⟩,n1,n2,hAl,by omega⟩
  have hp2:Ptr P S2 (a0J i bp a).bp cs:=hptr.mono (V1 hk2 (by omega))
  obtain ⟨S3,g3,k3,l3,c1,c2,c3⟩:=look_specB (H.mono hk2) hs hN hm hp2 hblc (hs.o i).2 (hs.o i).1 (hs.l i) rfl har (by show (0:Int) ≤ ((i:Nat):Int); omega)
  have hwb:V8 p (p.blocks.getD i default) (a0J i bp a) [0] ar = V8 p (p.blocks.getD i default) (a0J i .nilp a) [0] ar:=look_wb p _ (a0J i .nilp a) [0] ar bp
  rw [hwb] at c1 c3
  have hli:(S8 true 1 1 (O9 (fun i=>some (i * 1,1)) [.int .i64 0] [(0,(.int .i64 0))]) S) = some (.ms S.length 0 0 1 1,S1):=by
   have:(O9 (fun i=>some (i * 1,1)) [.int .i64 0] [(0,(.int .i64 0))]) = some [.int .i64 0]:=rfl
   rw [this,hS1]
   simp [S8]
  have hag:(X3 (O9 (fun i=>([(0,1),(1,1),(2,1),(3,5),(8,1),(9,1),(10,1),(11,1),(12,1)]:List (Nat × Nat))[i]?) [.nilp, .int .i64 0, .nilp, .bool false, .bool false, .int .i64 0, .int .i64 0, .int .i64 0, .int .i64 0, .nils, .int .i64 0, .str ⟨#[]⟩, .int .i64 0] [(0,(.mp V 0 0)),(1,(.int .i64 ((i:Nat):Int))),(2,bp),(3, .agg (arc a)),(4, .int .i64 a.depth),(5, .ms S.length 0 0 1 1),(6,(.int .i64 (-2))),(8,(.int .i64 (-1)))])) = some (.agg (T0 V S.length 0 [0] (a0J i bp a))):=by
   rcases hptr with rfl | ⟨id,g,off,all,fz,_,rfl,_⟩ <;> rfl
  have hall:(AV.cells (.agg (T0 V S.length 0 [0] (a0J i bp a)))).all AV.isCell = true:=by
   rcases hptr with rfl | ⟨id,g,off,all,fz,_,rfl,_⟩ <;> rfl
  have hec:AV.cells (.agg (T0 V S.length 0 [0] (a0J i bp a))) = T0 V S.length 0 [0] (a0J i bp a):=rfl
  have r3:∀ T:Sto,(∀ (j:Nat) (o:Ob),S[j]? = some o→T[j]? = some o)→ld false 1 T (.mp P 0 3) = some bl∧ld false 1 T (.mp V 0 1) = some (.ms A 0 0 ar.length 5)∧ld true 5 T (.mp A 0 (i * 5)) = some (.agg (arc a))∧ld false 1 T (.mp A 0 (i * 5 + 2)) = some (.int .i64 a.depth):=fun T hT=>
   ⟨O8 (hT _ _ H.hP) rfl,O8 (hT _ _ hV) rfl,ar_ld (hT _ _ hA) (by omega),O8 (hT _ _ hA) (ar_cell (by omega) (j:=2) rfl)⟩
  obtain ⟨p3,v1',a5,d5⟩:=r3 S fun _ _ h=>h
  obtain ⟨p3',v1'',a5',d5'⟩:=r3 S1 up1
  have hap:=ar_ptr (A:=A) (l:=ar) (i:=i) (by omega)
  have pre:p7.K1 P V ((p.blocks.length:Nat):Int) ((i:Nat):Int) S = (bif !decide ((((V8 p (p.blocks.getD i default) (a0J i .nilp a) [0] ar).1.2:Nat):Int) = 0) then some ⟨.ret (.tup [.int .i64 ((i:Nat):Int), .int .i64 (((V8 p (p.blocks.getD i default) (a0J i .nilp a) [0] ar).1.1:Nat):Int), .int .i64 (((V8 p (p.blocks.getD i default) (a0J i .nilp a) [0] ar).1.2:Nat):Int)]),none,S3⟩ else p7.K1 P V ((p.blocks.length:Nat):Int) ((i + 1:Nat):Int) S3):=by
   rw [p7.K1_e]
   refine (bt (O4 (by omega))).trans ?_
   refine (br p3).trans ?_
   refine (br hib).trans ?_
   refine (br v1').trans ?_
   refine (br hap).trans ?_
   refine (br a5).trans ?_
   refine (br v1').trans ?_
   refine (br hap).trans ?_
   refine (br (show fa 2 1 (.mp A 0 (i * 5)) = some (.mp A 0 (i * 5 + 2)) from rfl)).trans ?_
   refine (br d5).trans ?_
   refine (br hli).trans ?_
   refine (br d5').trans ?_
   refine (it rfl).trans ?_
   refine (br v1'').trans ?_
   refine (it rfl).trans ?_
   refine (br a5').trans ?_
   refine (it rfl).trans ?_
   refine (br v1'').trans ?_
   refine (it rfl).trans ?_
   refine (br p3').trans ?_
   refine (it rfl).trans ?_
   refine (br hag).trans ?_
   refine (it hall).trans ?_
   rw [hec,←hS2]
   refine (cr c1).trans ?_
   refine (br (x0 _ _)).trans ?_
   refine (br (x1 _ _ _)).trans ?_
   refine (br (aI _)).trans ?_
   rw [w1]
  rw [hd,pre]
  simp only [blkGo]
  have hkk:O5 P S S3:=(V1 hk2 (by omega)).trans (V1 c2 (by omega))
  by_cases hE:(V8 p (p.blocks.getD i default) (a0J i .nilp a) [0] ar).1.2 = 0
  ·have hN3:=c3 hE
   obtain ⟨S',e1,e2⟩:=ih (i + 1) _ S3 (by omega) ((H.mono hk2).mono (V1 c2 (by omega))) hN3.hV hN3.hA n1 n2 (by rw [lookA_len]; exact har)
   refine ⟨S',?_,hkk.trans e2⟩
   refine (bf (by rw [hE]; rfl)).trans ?_
   rw [if_pos hE]
   exact e1
  ·refine ⟨S3,?_,hkk⟩
   refine (bt (by simp only [Bool.not_eq_true',decide_eq_false_iff_not]; omega)).trans ?_
   rw [if_neg hE]
   rfl
theorem ar_rep (n:Nat):a2k n [AV.bool false, .bool false, .int .i64 0, .int .i64 0, .int .i64 0] = P4 (List.replicate n arZ):=by
 induction n with
 | zero=>rfl
 | succ n ih=>simp only [a2k,ih,List.replicate_succ,P4]; rfl
theorem W5 (hs:W2 p) (hm:∀ row n m,sx = .is row n (.cut m)→n ≤ m) {st:Sto} (hT:TxV p.texts tx) (hC:CdV p.codes cd) (hS:FoM p.statics sx) (hB:BlV st.length st p.blocks bl) (hsc:sx.isCell = true):O1 ap 6 [.agg [tx,cd,sx,bl]] st = some (.ret (tup3 (verA p)),st):=by
 rw [p7.call]
 suffices hb:∃ S',p7.b (.agg [tx,cd,sx,bl]) st = some ⟨.ret (tup3 (verA p)),none,S'⟩∧O5 st.length st S' by
  obtain ⟨S',k1,k2⟩:=hb
  exact O7 k1 rfl rfl k2
 have hec:AV.cells (.agg [tx,cd,sx,bl]) = [tx,cd,sx,bl]:=rfl
 have hall:([tx,cd,sx,bl]).all AV.isCell = true:=by
  simp only [List.all_cons,List.all_nil,hT.2.1,hC.2.1,hsc,hB.2.1,Bool.and_true]
 have hag:(X3 (O9 (fun i=>([(0,1),(1,1)]:List (Nat × Nat))[i]?) [.nilp, .nils] [(0,(.mp st.length 0 0))])) = some (.agg [.mp st.length 0 0, .nils]):=rfl
 obtain ⟨S0,hS0⟩:∃ S0,S0 = st ++ [Ob.cells 0 [tx,cd,sx,bl] 0]:=⟨_,rfl⟩
 have hl0:S0.length = st.length + 1:=by rw [hS0]; simp
 obtain ⟨S1,hS1⟩:∃ S1,S1 = S0 ++ [Ob.cells 0 [.mp st.length 0 0, .nils] 0]:=⟨_,rfl⟩
 have hl1:S1.length = st.length + 2:=by rw [hS1]; simp [hl0]
 have hk1:O5 st.length st S1:=by rw [hS1,hS0,List.append_assoc]; exact O5.app (Nat.le_refl _)
 have H1:Prg p st.length tx cd sx bl S1:=⟨by rw [hS1]; exact P8 (by rw [hS0]; simp),hT,hC,hS,hB.mono hk1⟩
 have hV1:S1[S0.length]? = some (.cells 0 [.mp st.length 0 0, .nils] 0):=by rw [hS1]; simp
 have g3:ld false 1 S1 (.mp st.length 0 3) = some bl:=O8 H1.hP rfl
 have hll:=lists_spec H1 hs hV1
 have start:p7.b (.agg [tx,cd,sx,bl]) st = (bif !decide ((((Y4 p).2:Nat):Int) = 0) then some ⟨.ret (.tup [.int .i64 0, .int .i64 (((Y4 p).1:Nat):Int), .int .i64 (((Y4 p).2:Nat):Int)]),none,S1⟩ else p7.G6 st.length S0.length (decide (p.blocks.length = 0∨8192 < p.blocks.length)) S1):=by
  rw [p7.b_eq,hec]
  refine (it hall).trans ?_
  refine (br hag).trans ?_
  refine (it rfl).trans ?_
  rw [←hS0,show AV.cells (.agg [.mp st.length 0 0, .nils]) = [.mp st.length 0 0, .nils] from rfl,←hS1]
  refine (cr hll).trans ?_
  refine (br (x0 _ _)).trans ?_
  refine (br (x1 _ _ _)).trans ?_
  refine (br (aI _)).trans ?_
  congr 1
  refine (br g3).trans ?_
  refine (br hB.1).trans ?_
  by_cases h0:p.blocks.length = 0
  ·refine (bt (O4 (by omega))).trans ?_
   rw [O4 (show p.blocks.length = 0∨8192 < p.blocks.length from .inl h0)]
  ·refine (bf (O0 (by omega))).trans ?_
   refine (br g3).trans ?_
   refine (br hB.1).trans ?_
   rw [show decide (8192 < ((p.blocks.length:Nat):Int)) = decide (p.blocks.length = 0∨8192 < p.blocks.length) from decide_eq_decide.2 (by omega)]
 rw [start]
 unfold verA
 by_cases he:(Y4 p).2 = 0
 ·rw [if_neg (show ¬ (Y4 p).2 ≠ 0 from fun h=>h he)]
  refine via (bf (by rw [he]; rfl)) ?_
  rw [p7.G6_e]
  by_cases hbad:p.blocks.length = 0∨8192 < p.blocks.length
  ·rw [if_pos hbad]
   exact ⟨S1,bt (O4 hbad),hk1⟩
  ·rw [if_neg hbad]
   have hmk:mkS 5 32 [.bool false, .bool false, .int .i64 0, .int .i64 0, .int .i64 0] (.int .i64 ((p.blocks.length:Nat):Int)) (.int .i64 ((p.blocks.length:Nat):Int)) S1 = some (.ms S1.length 0 0 p.blocks.length 5,S1 ++ [.cells 0 (P4 (List.replicate p.blocks.length arZ)) 0]):=by
    simp only [mkS]
    rw [if_pos (by omega),ar_rep]
    simp
   obtain ⟨S2,hS2⟩:∃ S2,S2 = S1 ++ [Ob.cells 0 (P4 (List.replicate p.blocks.length arZ)) 0]:=⟨_,rfl⟩
   have hV2:S2[S0.length]? = some (.cells 0 [.mp st.length 0 0, .nils] 0):=by rw [hS2]; exact P8 hV1
   have hst1:sto 1 S2 (.mp S0.length 0 1) (.ms S1.length 0 0 p.blocks.length 5) = some (S2.set S0.length (.cells 0 [.mp st.length 0 0, .ms S1.length 0 0 p.blocks.length 5] 0)):=U8 hV2 (by show 1 < 2; omega) rfl rfl
   obtain ⟨S3,hS3⟩:∃ S3,S3 = S2.set S0.length (.cells 0 [.mp st.length 0 0, .ms S1.length 0 0 p.blocks.length 5] 0):=⟨_,rfl⟩
   have hV2l:=(List.getElem?_eq_some_iff.1 hV2).1
   have hV3:S3[S0.length]? = some (.cells 0 [.mp st.length 0 0, .ms S1.length 0 0 p.blocks.length 5] 0):=by rw [hS3]; exact List.getElem?_set_self hV2l
   have hA3:S3[S1.length]? = some (.cells 0 (P4 (List.replicate p.blocks.length arZ)) 0):=by rw [hS3,List.getElem?_set_ne (by omega),hS2]; simp
   have hv1:ld false 1 S3 (.mp S0.length 0 1) = some (.ms S1.length 0 0 p.blocks.length 5):=O8 hV3 rfl
   have hrl:(List.replicate p.blocks.length arZ).length = p.blocks.length:=by simp
   have hap:ia 5 (.ms S1.length 0 0 p.blocks.length 5) (.int .i64 0) = some (.mp S1.length 0 0):=by
    have:=ar_ptr (A:=S1.length) (l:=List.replicate p.blocks.length arZ) (i:=0) (by rw [hrl]; omega)
    rw [hrl] at this
    exact this
   have hset:(P4 (List.replicate p.blocks.length arZ)).set 2 (.int .i64 1) = P4 (ar0 p.blocks.length):=by
    obtain ⟨n,hn⟩:∃ n,p.blocks.length = n + 1:=⟨p.blocks.length - 1,by omega⟩
    rw [hn]
    rfl
   have hst2:sto 1 S3 (.mp S1.length 0 2) (.int .i64 1) = some (S3.set S1.length (.cells 0 (P4 (ar0 p.blocks.length)) 0)):=by
    rw [U8 hA3 (by rw [a4q,hrl]; omega) rfl rfl,hset]
   obtain ⟨S4,hS4⟩:∃ S4,S4 = S3.set S1.length (.cells 0 (P4 (ar0 p.blocks.length)) 0):=⟨_,rfl⟩
   have hA3l:=(List.getElem?_eq_some_iff.1 hA3).1
   have hk4:O5 (st.length + 1) S1 S4:=by
    rw [hS4,hS3,hS2]
    exact (O5.app (by omega)).trans ((O5.set (by omega)).trans (O5.set (by omega)))
   have H4:Prg p st.length tx cd sx bl S4:=H1.mono hk4
   have hal:(ar0 p.blocks.length).length = p.blocks.length:=by simp [ar0]
   obtain ⟨S',e1,e2⟩:=blk_loop (V:=S0.length) (A:=S1.length) hs hm p.blocks.length 0 (ar0 p.blocks.length) S4 (by omega) H4 (by rw [hal,hS4,List.getElem?_set_ne (by omega)]; exact hV3) (by rw [hS4]; exact List.getElem?_set_self hA3l) (by omega) (by omega) hal
   refine ⟨S',?_,hk1.trans ((V1 hk4 (by omega)).trans e2)⟩
   refine (bf (O0 hbad)).trans ?_
   refine (br g3).trans ?_
   refine (br hB.1).trans ?_
   refine (br hmk).trans ?_
   rw [←hS2]
   refine (br hst1).trans ?_
   rw [←hS3]
   refine (br hv1).trans ?_
   refine (br hap).trans ?_
   refine (br (show fa 2 1 (.mp S1.length 0 0) = some (.mp S1.length 0 2) from rfl)).trans ?_
   refine (br hst2).trans ?_
   rw [←hS4]
   refine (br (O8 H4.hP rfl)).trans ?_
   refine (br hB.1).trans ?_
   rw [List.drop_zero] at e1
   exact e1
 ·rw [if_pos he]
  refine ⟨S1,?_,hk1⟩
  refine (bt (by simp only [Bool.not_eq_true',decide_eq_false_iff_not]; omega)).trans ?_
  rfl
end
end Go.Proofs.YtcgepgahgihojaaGreatDoor
