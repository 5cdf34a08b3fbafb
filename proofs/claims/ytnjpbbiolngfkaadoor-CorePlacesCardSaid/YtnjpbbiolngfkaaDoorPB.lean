/- Steps. -/
import Derived.Test.YtnjpbbiolngfkaaDoorE
import Derived.Test.YtnjpbbiolngfkaaDoorStS19
import Derived.Test.YtnjpbbiolngfkaaDoorStEv
namespace Go.Proofs.YtnjpbbiolngfkaaDoor
open Go.St Go.Lib
set_option linter.unusedVariables false
set_option linter.unusedSimpArgs false

theorem ret_keep {b : Option Res} {v : AV} {st st' : Sto} (h : b = some ⟨.ret v, none, st'⟩) (hs : v.strip st.length = v) (ho : v.old st.length = true) (hk : Keeps st.length st st') :
    (b.bind fun r => some (gc st (r.out, r.st))) = some (.ret v, st) := by
  rw [h]
  simp only [Option.bind_some]
  rw [gc_keep hs ho hk]
theorem w64 {x : Int} (k : Nat) (h : x = k) (hk : k < 9223372036854775808) : IntKind.wrap .i64 x = (k : Int) := by rw [h]; exact wrap64 (by omega) (by omega)
theorem gc_same {v : AV} {st st' : Sto} (hl : st'.length = st.length) (hs : v.strip st.length = v) : gc st (.ret v, st') = (.ret v, st') := by
  unfold gc
  split
  · simp only [Out.map, hs]
    rw [← hl, List.take_length]
  · rfl
theorem aI (n : Int) : asI .i64 (.int .i64 n) = some n := rfl
theorem aS (s : ByteArray) : asS (.str s) = some s := rfl
theorem aB (b : Bool) : asB (.bool b) = some b := rfl
theorem gB (b : Bool) : guardT (.bool b) = some (some b) := rfl
theorem x0 (a : AV) (l : List AV) : ext (.tup (a :: l)) 0 = some a := rfl
theorem x1 (a b : AV) (l : List AV) : ext (.tup (a :: b :: l)) 1 = some b := rfl
theorem x2 (a b c : AV) (l : List AV) : ext (.tup (a :: b :: c :: l)) 2 = some c := rfl
theorem cr {c : Option (Out × Sto)} {v : AV} {st : Sto} {F G : Out × Sto → AV → Option Res} (h : c = some (.ret v, st)) : (c.bind fun x => x.1.on (F x) (G x)) = F (.ret v, st) v := by rw [h]; rfl
theorem br {α : Type} {c : Option α} {a : α} {F : α → Option Res} (h : c = some a) : c.bind F = F a := by rw [h]; rfl
theorem bt {c : Bool} {x y : Option Res} (h : c = true) : (bif c then x else y) = x := by rw [h]; rfl
theorem bf {c : Bool} {x y : Option Res} (h : c = false) : (bif c then x else y) = y := by rw [h]; rfl
theorem it {p : Prop} {inst : Decidable p} {x y : Option Res} (h : p) : (if p then x else y) = x := if_pos h
theorem gs {no : Option Res} {yes : Bool → Option Res} {b : Bool} : gOn (some b) no yes = yes b := rfl
theorem dtrue {p : Prop} [Decidable p] (h : p) : decide p = true := decide_eq_true h
theorem dfalse {p : Prop} [Decidable p] (h : ¬ p) : decide p = false := decide_eq_false h
theorem app_get {S l : Sto} {n : Nat} {o : Ob} (h : S[n]? = some o) : (S ++ l)[n]? = some o := by
  rw [List.getElem?_append_left (List.getElem?_eq_some_iff.1 h).1, h]
theorem m_get {st : Sto} {id g fz n : Nat} {cs : List AV} {x : AV} (h : st[id]? = some (.cells g cs fz)) (hx : cs[n]? = some x) : ld false 1 st (.mp id g n) = some x := by
  have hl : n < cs.length := (List.getElem?_eq_some_iff.1 hx).1
  have h1 : n + 1 ≤ cs.length := hl
  have h2 : (cs.drop n).take 1 = [x] := by
    rw [List.drop_eq_getElem_cons hl]
    simp only [List.take_succ_cons, List.take_zero]
    rw [(List.getElem?_eq_some_iff.1 hx).2]
  simp only [ld, ldCells, h, h1, true_and, if_true, Option.bind_some, h2]
  rfl
theorem m_all {st : Sto} {id g fz n : Nat} {cs : List AV} (h : st[id]? = some (.cells g cs fz)) (hn : cs.length = n) : ld true n st (.mp id g 0) = some (.agg cs) := by
  subst hn
  simp only [ld, ldCells, h, Nat.zero_add, Nat.le_refl, true_and, if_true, Option.bind_some, List.drop_zero, List.take_length]
  rfl
theorem m_new {st : Sto} {cs cs' : List AV} (hc : cs'.all AV.isCell = true) (hl : cs'.length = cs.length) {n : Nat} (hn : cs.length = n) : sto n (st ++ [Ob.cells 0 cs 0]) (.mp st.length 0 0) (.agg cs') = some (st ++ [Ob.cells 0 cs' 0]) := by
  have h1 : (st ++ [Ob.cells 0 cs 0])[st.length]? = some (.cells 0 cs 0) := by simp
  have h2 : cs'.length ≤ cs.length := by omega
  have h3 : (AV.cells (.agg cs')).length = n := by show cs'.length = n; omega
  have h4 : ((AV.agg cs').cells) = cs' := rfl
  unfold sto
  rw [if_pos h3, h4]
  simp only [stCells, h1, Nat.zero_add, h2, hc, Nat.le_refl, true_and, and_self, if_true, splice, List.take_zero, List.nil_append]
  rw [List.drop_of_length_le (by omega)]
  simp
theorem set_same {st : Sto} {id : Nat} {o : Ob} (h : st[id]? = some o) : st.set id o = st := by
  apply List.ext_getElem?
  intro i
  by_cases hi : id = i
  · subst hi
    rw [List.getElem?_set_self (List.getElem?_eq_some_iff.1 h).1, h]
  · rw [List.getElem?_set_ne hi]
theorem sto_at {st : Sto} {id k : Nat} {cs : List AV} {x : AV} (h : st[id]? = some (.cells 0 cs 0)) (hk : k < cs.length) (hx : x.isCell = true) (hc : x.cells = [x]) : sto 1 st (.mp id 0 k) x = some (st.set id (.cells 0 (cs.set k x) 0)) := by
  have h1 : k + [x].length ≤ cs.length := hk
  have h2 : ([x]).all AV.isCell = true := by simp [hx]
  have h3 : splice cs k [x] = cs.set k x := by
    unfold splice
    rw [List.set_eq_take_append_cons_drop, if_pos hk]
    rfl
  unfold sto
  rw [hc, if_pos (show [x].length = 1 from rfl)]
  simp only [stCells, h, h1, h2, h3, Nat.zero_le, true_and, and_self, if_true]
theorem last_set {S : Sto} {o o' : Ob} : (S ++ [o]).set S.length o' = S ++ [o'] := by
  rw [List.set_append_right _ _ (Nat.le_refl _), Nat.sub_self]
  rfl
theorem last_get {S : Sto} {o : Ob} : (S ++ [o])[S.length]? = some o := by simp
theorem num_spec (a : Int) (st : Sto) : CallR ap 9 [.int .i64 a] st = some (.ret (.int .i64 a), st) := by
  rw [stencillaw0_Num.call]
  exact ret_keep (stencillaw0_Num.b_eq a st) rfl rfl (Keeps.refl _ _)
end Go.Proofs.YtnjpbbiolngfkaaDoor
