/- Forests of one tree: a text, an element with one attribute. -/
import Derived.Test.YtjcpcglhjeoifaaDoorUN
import Derived.Test.YtjcpcglhjeoifaaDoorH
import Derived.Test.YtjcpcglhjeoifaaDoorStEv
namespace Go.Proofs.YtjcpcglhjeoifaaDoor
open Go.St Go.Lib
set_option linter.unusedVariables false
set_option linter.unusedSimpArgs false

theorem awake_spec : CallR ap 19 [] [] = some (.ret (.bool true), []) := ev_call 100000 (by kernel_rfl)

theorem num_spec (a : Int) (st : Sto) : CallR ap 14 [.int .i64 a] st = some (.ret (.int .i64 a), st) := by
  rw [stencillaw0_Num.call]
  exact ret_keep (stencillaw0_Num.b_eq a st) rfl rfl (Keeps.refl _ _)

/-- Behind a call that turned an old object, which leads to nothing new. -/
theorem ret_set {b : Option Res} {v : AV} {st : Sto} {id : Nat} {o : Ob} {l : Sto} (h : b = some ⟨.ret v, none, st.set id o ++ l⟩) (hs : v.strip st.length = v) (ho : v.old st.length = true) (hoo : o.old st.length = true) :
    (b.bind fun r => some (gc st (r.out, r.st))) = some (.ret v, st.set id o) := by
  rw [h]
  simp only [Option.bind_some]
  have hc : (((Out.ret v).val.strip st.length).old st.length = true ∧ st.length ≤ (st.set id o ++ l).length ∧ Kept st.length st (st.set id o ++ l)) := by
    refine ⟨by simp only [Out.val, hs]; exact ho, by simp, fun i hi => ?_⟩
    rw [List.getElem?_append_left (by simpa using hi)]
    by_cases h : id = i
    · subst h
      exact .inr ⟨o, List.getElem?_set_self hi, hoo⟩
    · exact .inl (List.getElem?_set_ne h)
  have ht : (st.set id o ++ l).take st.length = st.set id o := by
    have : (st.set id o).length = st.length := by simp
    rw [← this, List.take_left]
  unfold gc
  rw [if_pos hc]
  simp only [Out.map, hs, ht]

open Classical in
/-- A text that may be. -/
noncomputable def okT (s : ByteArray) : Bool := decide (Scan s 0 none) && decide (s.size ≤ 4096)

theorem scan_det {s : ByteArray} {i : Nat} {r r' : Option Nat} (h : Scan s i r) (h' : Scan s i r') : r = r' := by
  induction h with
  | done i h => cases h' <;> first | rfl | omega
  | bad i h hb => cases h' <;> first | rfl | omega | contradiction
  | step i r h hb k ih =>
    cases h' with
    | done _ h2 => omega
    | bad _ _ hb2 => contradiction
    | step _ _ _ _ k2 => exact ih k2

theorem text_ok (s : ByteArray) (hs : s.size < 9223372036854775800) (st : Sto) : CallR ap 55 [.str s] st = some (.ret (.bool (okT s)), st) := by
  obtain ⟨r, hr⟩ := scan_ex s s.size 0 (by omega) (by omega)
  rw [forest_text.call]
  refine ret_keep ?_ rfl rfl (Keeps.refl _ _)
  rw [forest_text.b_eq]
  unfold okT
  cases r with
  | none =>
    have e : (((ByteArray.size s : Nat) : Int) ≤ 4096) = (s.size ≤ 4096) := propext ⟨fun h => by omega, fun h => by omega⟩
    simp only [valid_spec hs hr, validOut, Option.bind_some, Out.on, ext, List.getElem?_cons_zero, List.getElem?_cons_succ, asI, if_true, decide_true, cond_true, e, hr, Bool.true_and]
  | some a =>
    have e : ¬ Scan s 0 none := fun h => by have := scan_det h hr; cases this
    simp only [valid_spec hs hr, validOut, Option.bind_some, Out.on, ext, List.getElem?_cons_zero, List.getElem?_cons_succ, asI, if_true, show decide ((300 : Int) = 0) = false from rfl, cond_false, e, decide_false, Bool.false_and]

/-- The two trees. -/
def tText (s : ByteArray) : List AV := [.str ⟨#[]⟩, .str s, .nils, .nils]
def tElem (s : ByteArray) : List AV := [.str ⟨#[97]⟩, .str ⟨#[]⟩, .is [.str ⟨#[98]⟩, .str s] 1 .full, .nils]

theorem ne97 : decide ((⟨#[97]⟩ : ByteArray) = ⟨#[]⟩) = false := by decide
theorem ee : decide ((⟨#[]⟩ : ByteArray) = ⟨#[]⟩) = true := by decide
theorem tag97 (st : Sto) : CallR ap 57 [.str ⟨#[97]⟩] st = some (.ret (.bool true), st) := by
  rw [tag_spec _ (by decide)]
  rfl
theorem tag98 (st : Sto) : CallR ap 57 [.str ⟨#[98]⟩] st = some (.ret (.bool true), st) := by
  rw [tag_spec _ (by decide)]
  rfl

theorem formed_text (s : ByteArray) (hs : s.size < 9223372036854775800) (st : Sto) : CallR ap 50 [.ip (tText s)] st = some (.ret (.bool (okT s)), st) := by
  rw [forest_formed.call]
  refine ret_keep ?_ rfl rfl (Keeps.refl _ _)
  rw [forest_formed.b_eq]
  simp [tText, nilCk, fa, ld, ldCells, pack, asS, ee, lenL, text_ok s hs, Out.on, asB]

theorem formed_elem (s : ByteArray) (hs : s.size < 9223372036854775800) (st : Sto) : CallR ap 50 [.ip (tElem s)] st = some (.ret (.bool (okT s)), st) := by
  rw [forest_formed.call]
  suffices h : ∃ st', forest_formed.b (.ip (tElem s)) st = some ⟨.ret (.bool (okT s)), none, st'⟩ ∧ Keeps st.length st st' by
    obtain ⟨st', h1, h2⟩ := h
    exact ret_keep h1 rfl rfl h2
  have hw : IntKind.wrap .i64 1 = 1 := by decide
  rw [forest_formed.b_eq]
  simp [tElem, nilCk, fa, ld, ldCells, pack, asS, ne97, lenL]
  rw [forest_formed.p110100_eq]
  simp [ia, idx, ld, ldCells, pack, sto, stCells, AV.cells, AV.isCell, splice, tag98, Out.on, asB, text_ok s hs, forest_formed.p110100110011_eq, hw]
  cases hk : okT s with
  | false => simp; exact Keeps.app (Nat.le_refl _)
  | true =>
    rw [forest_formed.p110100_eq]
    simp [nilCk, fa, ld, ldCells, pack, asS, tag97, Out.on, guardT, gOn, ee]
    exact Keeps.app (Nat.le_refl _)

/-- Where the counts lie. -/
theorem set3 {st : Sto} {id : Nat} {a b c a' b' c' : AV} : (st.set id (.cells 0 [a, b, c] 0)).set id (.cells 0 [a', b', c'] 0) = st.set id (.cells 0 [a', b', c'] 0) := by rw [List.set_set]

theorem walk_one (t : List AV) (ok : Bool) (ht : ∃ c0 c1 c2, t = [c0, c1, c2, .nils]) (st : Sto) (id : Nat) (hst : st[id]? = some (.cells 0 [.int .i64 0, .int .i64 0, .int .i64 0] 0))
    (hf : ∀ st, CallR ap 50 [.ip t] st = some (.ret (.bool ok), st)) :
    CallR ap 39 [.is t 1 .full, .int .i64 1, .mp id 0 0] st = some (.ret (.bool ok), st.set id (.cells 0 [.int .i64 1, .int .i64 1, .int .i64 (if ok = true then 0 else 700)] 0)) := by
  obtain ⟨c0, c1, c2, rfl⟩ := ht
  have hget : ∀ o : Ob, (st.set id o)[id]? = some o := fun o => List.getElem?_set_self (List.getElem?_eq_some_iff.1 hst).1
  have hw1 : IntKind.wrap .i64 1 = 1 := by decide
  have hw2 : IntKind.wrap .i64 2 = 2 := by decide
  have hnil : ∀ st : Sto, CallR ap 39 [.nils, .int .i64 2, .mp id 0 0] st = some (.ret (.bool true), st) := by
    intro st
    rw [forest_walk.call]
    refine ret_keep ?_ rfl rfl (Keeps.refl _ _)
    rw [forest_walk.b_eq]
    simp [lenL]
    rw [forest_walk.p10100_eq]
    simp
  rw [forest_walk.call]
  refine ret_set (l := []) ?_ rfl rfl rfl
  rw [forest_walk.b_eq, List.append_nil]
  simp only [lenL, Option.bind_some]
  rw [forest_walk.p10100_eq]
  cases ok with
  | true =>
    simp [nilCk, fa, ld, ldCells, pack, hst, asI, sto, stCells, AV.cells, AV.isCell, splice, hget, hw1, ia, idx, hf, Out.on, asB, set3, forest_walk.p101001100111_eq, forest_walk.p10100110011111_eq, mxI, hw2, hnil]
    rw [forest_walk.p10100_eq]
    simp
  | false =>
    simp [nilCk, fa, ld, ldCells, pack, hst, asI, sto, stCells, AV.cells, AV.isCell, splice, hget, hw1, ia, idx, hf, Out.on, asB, set3, forest_walk.p101001100111_eq, forest_walk.p10100110011111_eq, mxI, hw2, hnil]

theorem check_one (t : List AV) (ok : Bool) (ht : ∃ c0 c1 c2, t = [c0, c1, c2, .nils]) (st : Sto) (hf : ∀ st, CallR ap 50 [.ip t] st = some (.ret (.bool ok), st)) :
    CallR ap 9 [.is t 1 .full] st = some (.ret (.int .i64 (if ok = true then 0 else 700)), st) := by
  have hl : ∃ n d, CallR ap 27 [.is t 1 .full] st = some (.ret (.agg [.int .i64 n, .int .i64 d, .int .i64 (if ok = true then 0 else 700)]), st) := by
    have hw := walk_one t ok ht (st ++ [Ob.cells 0 [.int .i64 0, .int .i64 0, .int .i64 0] 0] ++ [Ob.cells 0 [.int .i64 0, .int .i64 0, .int .i64 0] 0]) (st.length + 1) (by simp) hf
    suffices h : ∃ n d st', forest_looked.b (.is t 1 .full) st = some ⟨.ret (.agg [.int .i64 n, .int .i64 d, .int .i64 (if ok = true then 0 else 700)]), none, st'⟩ ∧ Keeps st.length st st' by
      obtain ⟨n, d, st', h1, h2⟩ := h
      exact ⟨n, d, by rw [forest_looked.call]; exact ret_keep h1 rfl rfl h2⟩
    rw [forest_looked.b_eq]
    have hlen : (st ++ [Ob.cells 0 [AV.int .i64 0, .int .i64 0, .int .i64 0] 0]).length = st.length + 1 := by simp
    rw [hlen, hw]
    have hset : ∀ o : Ob, ((st ++ [Ob.cells 0 [AV.int .i64 0, .int .i64 0, .int .i64 0] 0] ++ [Ob.cells 0 [AV.int .i64 0, .int .i64 0, .int .i64 0] 0]).set (st.length + 1) o) = st ++ [Ob.cells 0 [AV.int .i64 0, .int .i64 0, .int .i64 0] 0, o] := by
      intro o
      rw [List.append_assoc, List.set_append_right _ _ (by omega)]
      simp
    rw [hset]
    cases ok with
    | true =>
      simp [Out.on, asB, ld, ldCells, pack, sto, stCells, AV.cells, AV.isCell, splice, List.getElem?_append_right]
      exact ⟨_, _, _, ⟨⟨rfl, rfl⟩, rfl⟩, Keeps.app (Nat.le_refl _)⟩
    | false =>
      simp [Out.on, asB, ld, ldCells, pack, sto, stCells, AV.cells, AV.isCell, splice, List.getElem?_append_right, aggA, fillA]
      exact ⟨_, _, _, ⟨⟨rfl, rfl⟩, rfl⟩, Keeps.app (Nat.le_refl _)⟩
  obtain ⟨n, d, hl⟩ := hl
  rw [forest_Check.call]
  refine ret_keep ?_ rfl rfl (Keeps.refl _ _)
  rw [forest_Check.b_eq, hl]
  simp [Out.on, fieldOf, partA]


/-! ### Written -/
theorem write_nil (x : AV) (st : Sto) : CallR ap 28 [x, .nils] st = some (.ret (.tup []), st) := by
  rw [forest_write.call]
  refine ret_keep ?_ rfl rfl (Keeps.refl _ _)
  rw [forest_write.b_eq]
  simp only [lenL, Option.bind_some]
  rw [forest_write.p100_eq]
  simp

theorem bld_app {st l : Sto} {id : Nat} {b : ByteArray} (h : st[id]? = some (.bld b)) : (st ++ l)[id]? = some (.bld b) ∧ ∀ o : Ob, (st ++ l).set id o = st.set id o ++ l := by
  have hid : id < st.length := (List.getElem?_eq_some_iff.1 h).1
  exact ⟨by rw [List.getElem?_append_left hid, h], fun o => by rw [List.set_append_left _ _ hid]⟩

theorem add_bld {st : Sto} {id : Nat} {b t : ByteArray} (h : st[id]? = some (.bld b)) (hl : b.size + t.size ≤ 70368744177664) : primA .bldStr [.mp id 0 0, .str t] st = some (.ret (.tup [.int .i64 (t.size : Nat), .nili]), st.set id (.bld (b ++ t))) := by
  simp only [primA, bldAdd, h, hl, if_true, Option.bind_some]
theorem add_byte {st : Sto} {id : Nat} {b : ByteArray} (h : st[id]? = some (.bld b)) (hl : b.size + 1 ≤ 70368744177664) : primA .bldByte [.mp id 0 0, .int .u8 62] st = some (.ret .nili, st.set id (.bld (b ++ ⟨#[62]⟩))) := by
  have z : (⟨#[62]⟩ : ByteArray).size = 1 := rfl
  have e : Go.St.byteOf 62 = ⟨#[62]⟩ := by decide
  have hl' : b.size + (⟨#[62]⟩ : ByteArray).size ≤ 70368744177664 := by omega
  simp only [primA, bldAdd, h, if_true, Option.bind_some, show (0 : Int) ≤ 62 ∧ (62 : Int) < 256 by decide, e]
  simp only [hl', if_true, Option.bind_some, and_self, h]

theorem esc_size (q : Bool) (s : ByteArray) (hs : s.size ≤ 4096) : (mk (esc q s.data.toList)).size ≤ 32768 := by
  rw [mk_size]
  have := esc_len q s.data.toList
  rw [← size_list] at this
  omega

theorem write_text (s : ByteArray) (hs : s.size ≤ 4096) (st : Sto) (id : Nat) (hst : st[id]? = some (.bld ByteArray.empty)) :
    CallR ap 28 [.mp id 0 0, .is (tText s) 1 .full] st = some (.ret (.tup []), st.set id (.bld (ByteArray.empty ++ mk (esc false s.data.toList)))) := by
  have he := esc_size false s hs
  have hw1 : IntKind.wrap .i64 1 = 1 := by decide
  have hadd := add_bld (t := mk (esc false s.data.toList)) hst (by rw [show ByteArray.empty.size = 0 from rfl]; omega)
  rw [forest_write.call]
  refine ret_set (l := []) ?_ rfl rfl rfl
  rw [forest_write.b_eq, List.append_nil]
  simp only [lenL, Option.bind_some]
  rw [forest_write.p100_eq]
  simp [ia, idx, tText, nilCk, fa, ld, ldCells, pack, asS, ee, text s (by omega), Out.on, hadd, forest_write.p100111_eq, hw1]
  rw [forest_write.p100_eq]
  simp

theorem write_elem (s : ByteArray) (hs : s.size ≤ 4096) (st : Sto) (id : Nat) (hst : st[id]? = some (.bld ByteArray.empty)) :
    ∃ R l, CallR ap 28 [.mp id 0 0, .is (tElem s) 1 .full] st = some (.ret (.tup []), st.set id (.bld R)) ∧ l = (⟨#[60, 97, 32, 98, 61, 34]⟩ ++ mk (esc true s.data.toList) ++ ⟨#[34, 62, 60, 47, 97, 62]⟩ : ByteArray) ∧ R = l := by
  have he := esc_size true s hs
  have hw1 : IntKind.wrap .i64 1 = 1 := by decide
  let A1 : ByteArray := ByteArray.empty ++ (⟨#[60]⟩ ++ ⟨#[97]⟩)
  let T2 : ByteArray := ((((⟨#[32]⟩ : ByteArray) ++ ⟨#[98]⟩) ++ ⟨#[61, 34]⟩) ++ mk (esc true s.data.toList)) ++ ⟨#[34]⟩
  let A2 : ByteArray := A1 ++ T2
  let A3 : ByteArray := A2 ++ ⟨#[62]⟩
  let T4 : ByteArray := ((⟨#[60, 47]⟩ : ByteArray) ++ ⟨#[97]⟩) ++ ⟨#[62]⟩
  have z1 : A1.size = 2 := rfl
  have zT : T2.size ≤ 32773 := by
    show (((((⟨#[32]⟩ : ByteArray) ++ ⟨#[98]⟩) ++ ⟨#[61, 34]⟩) ++ mk (esc true s.data.toList)) ++ ⟨#[34]⟩).size ≤ _
    rw [ByteArray.size_append, ByteArray.size_append]
    have e1 : ((((⟨#[32]⟩ : ByteArray) ++ ⟨#[98]⟩) ++ ⟨#[61, 34]⟩)).size = 4 := rfl
    have e2 : (⟨#[34]⟩ : ByteArray).size = 1 := rfl
    omega
  have z2 : A2.size ≤ 32775 := by show (A1 ++ T2).size ≤ _; rw [ByteArray.size_append]; omega
  have z3 : A3.size ≤ 32776 := by show (A2 ++ ⟨#[62]⟩).size ≤ _; rw [ByteArray.size_append]; have e2 : (⟨#[62]⟩ : ByteArray).size = 1 := rfl; omega
  have zT4 : T4.size = 4 := rfl
  have hget : ∀ o : Ob, (st.set id o)[id]? = some o := fun o => List.getElem?_set_self (List.getElem?_eq_some_iff.1 hst).1
  have a1 : primA .bldStr [.mp id 0 0, .str (⟨#[60]⟩ ++ ⟨#[97]⟩)] st = some (.ret (.tup [.int .i64 ((⟨#[60]⟩ ++ ⟨#[97]⟩ : ByteArray).size : Nat), .nili]), st.set id (.bld A1)) := add_bld (t := ⟨#[60]⟩ ++ ⟨#[97]⟩) hst (by decide)
  have g1 : (st.set id (.bld A1))[id]? = some (.bld A1) := hget _
  let C : Ob := .cells 0 [.str ⟨#[98]⟩, .str s] 0
  obtain ⟨b1, b2⟩ := bld_app (l := [C]) g1
  have a2 := add_bld (t := T2) b1 (by omega)
  rw [b2, List.set_set] at a2
  change _ = some (_, st.set id (.bld A2) ++ [C]) at a2
  have g2 : (st.set id (.bld A2))[id]? = some (.bld A2) := hget _
  obtain ⟨b3, b4⟩ := bld_app (l := [C]) g2
  have a3 := add_byte b3 (by omega)
  rw [b4, List.set_set] at a3
  change _ = some (_, st.set id (.bld A3) ++ [C]) at a3
  have g3 : (st.set id (.bld A3))[id]? = some (.bld A3) := hget _
  obtain ⟨b5, b6⟩ := bld_app (l := [C]) g3
  have a4 := add_bld (t := T4) b5 (by omega)
  rw [b6, List.set_set] at a4
  refine ⟨A3 ++ T4, _, ?_, rfl, ?_⟩
  · rw [forest_write.call]
    refine ret_set (l := [C]) ?_ rfl rfl rfl
    rw [forest_write.b_eq]
    simp only [lenL, Option.bind_some]
    rw [forest_write.p100_eq]
    have hlen : (st.set id (.bld A1)).length = st.length := by simp
    have i1 : ia 4 (.is [.str ⟨#[97]⟩, .str ⟨#[]⟩, .is [.str ⟨#[98]⟩, .str s] 1 .full, .nils] 1 .full) (.int .i64 0) = some (.ip [.str ⟨#[97]⟩, .str ⟨#[]⟩, .is [.str ⟨#[98]⟩, .str s] 1 .full, .nils]) := rfl
    unfold tElem
    have sA : ∀ n : Nat, n ≤ 40000 → ((⟨#[60]⟩ : ByteArray).size + (⟨#[97]⟩ : ByteArray).size ≤ 9223372036854775807) := fun _ _ => by decide
    have hsto : sto 2 (st.set id (.bld A1) ++ [Ob.cells 0 [.str ⟨#[]⟩, .str ⟨#[]⟩] 0]) (.mp (st.set id (.bld A1)).length 0 0) (.agg [.str ⟨#[98]⟩, .str s]) = some (st.set id (.bld A1) ++ [C]) := by
      simp [sto, stCells, AV.cells, AV.isCell, splice, C]
    have hl0 : ld false 1 (st.set id (.bld A1) ++ [C]) (.mp (st.set id (.bld A1)).length 0 0) = some (.str ⟨#[98]⟩) := by simp [ld, ldCells, pack, C]
    have hl1 : ld false 1 (st.set id (.bld A1) ++ [C]) (.mp (st.set id (.bld A1)).length 0 1) = some (.str s) := by simp [ld, ldCells, pack, C]
    have ht := attr s (by omega) (st.set id (.bld A1) ++ [C])
    have f0 : nilCk (.ip [.str ⟨#[97]⟩, .str ⟨#[]⟩, .is [.str ⟨#[98]⟩, .str s] 1 .full, .nils]) = some (.ip [.str ⟨#[97]⟩, .str ⟨#[]⟩, .is [.str ⟨#[98]⟩, .str s] 1 .full, .nils]) := rfl
    have n0 : ∀ c : AV, nilCk (.ip [c]) = some (.ip [c]) := fun _ => rfl
    have f1 : fa 0 1 (.ip [.str ⟨#[97]⟩, .str ⟨#[]⟩, .is [.str ⟨#[98]⟩, .str s] 1 .full, .nils]) = some (.ip [.str ⟨#[97]⟩]) := rfl
    have f2 : fa 2 1 (.ip [.str ⟨#[97]⟩, .str ⟨#[]⟩, .is [.str ⟨#[98]⟩, .str s] 1 .full, .nils]) = some (.ip [.is [.str ⟨#[98]⟩, .str s] 1 .full]) := rfl
    have f3 : fa 3 1 (.ip [.str ⟨#[97]⟩, .str ⟨#[]⟩, .is [.str ⟨#[98]⟩, .str s] 1 .full, .nils]) = some (.ip [.nils]) := rfl
    have ll : ∀ (st : Sto) (c : AV), ld false 1 st (.ip [c]) = some c := fun _ _ => rfl
    have ln : lenL (.is [.str ⟨#[98]⟩, .str s] 1 .full) = some 1 := rfl
    simp only [show ((0 : Int) < ((1 : Nat) : Int)) by decide, decide_true, cond_true, i1, Option.bind_some, f0, f1, f2, f3, ll, asS, ne97, cond_false, sA 0 (by decide), if_true, a1, Out.on, ln]
    rw [forest_write.p100110011110100_eq]
    have i2 : ia 2 (.is [.str ⟨#[98]⟩, .str s] 1 .full) (.int .i64 0) = some (.ip [.str ⟨#[98]⟩, .str s]) := rfl
    have l2 : ∀ st : Sto, ld true 2 st (.ip [.str ⟨#[98]⟩, .str s]) = some (.agg [.str ⟨#[98]⟩, .str s]) := fun _ => rfl
    have q1 : (⟨#[32]⟩ : ByteArray).size + (⟨#[98]⟩ : ByteArray).size ≤ 9223372036854775807 := by decide
    have q2 : ((⟨#[32]⟩ : ByteArray) ++ ⟨#[98]⟩).size + (⟨#[61, 34]⟩ : ByteArray).size ≤ 9223372036854775807 := by decide
    have q3 : (((⟨#[32]⟩ : ByteArray) ++ ⟨#[98]⟩) ++ ⟨#[61, 34]⟩).size + (mk (esc true s.data.toList)).size ≤ 9223372036854775807 := by
      have e1 : (((⟨#[32]⟩ : ByteArray) ++ ⟨#[98]⟩) ++ ⟨#[61, 34]⟩).size = 4 := rfl
      omega
    have q4 : ((((⟨#[32]⟩ : ByteArray) ++ ⟨#[98]⟩) ++ ⟨#[61, 34]⟩) ++ mk (esc true s.data.toList)).size + (⟨#[34]⟩ : ByteArray).size ≤ 9223372036854775807 := by
      rw [ByteArray.size_append]
      have e1 : (((⟨#[32]⟩ : ByteArray) ++ ⟨#[98]⟩) ++ ⟨#[61, 34]⟩).size = 4 := rfl
      have e2 : (⟨#[34]⟩ : ByteArray).size = 1 := rfl
      omega
    have q5 : (⟨#[60, 47]⟩ : ByteArray).size + (⟨#[97]⟩ : ByteArray).size ≤ 9223372036854775807 := by decide
    have q6 : ((⟨#[60, 47]⟩ : ByteArray) ++ ⟨#[97]⟩).size + (⟨#[62]⟩ : ByteArray).size ≤ 9223372036854775807 := by decide
    simp only [show ((0 : Int) < ((1 : Nat) : Int)) by decide, decide_true, cond_true, i2, l2, hsto, hl0, hl1, asS, Option.bind_some, q1, q2, q3, q4, if_true, ht, Out.on, show IntKind.wrap .i64 (0 + 1) = 1 by decide]
    rw [a2]
    simp only [Option.bind_some, Out.on]
    rw [forest_write.p100110011110100_eq]
    simp only [show ¬ ((1 : Int) < ((1 : Nat) : Int)) by decide, decide_false, cond_false]
    rw [a3]
    simp only [Option.bind_some, Out.on, f0, f1, f2, f3, ll, write_nil, asS, q5, q6, if_true]
    rw [a4]
    simp only [Option.bind_some, Out.on, forest_write.p100111_eq, show IntKind.wrap .i64 (0 + 1) = 1 by decide]
    rw [forest_write.p100_eq]
    simp only [show ¬ ((1 : Int) < ((1 : Nat) : Int)) by decide, decide_false, cond_false]
  · apply ByteArray.ext
    apply Array.ext'
    simp [A3, A2, A1, T2, T4, ByteArray.data_append]

theorem html_one (t : List AV) (ok : Bool) (ht : ∃ c0 c1 c2, t = [c0, c1, c2, .nils]) (X : ByteArray) (st : Sto) (hf : ∀ st, CallR ap 50 [.ip t] st = some (.ret (.bool ok), st))
    (hw : ok = true → CallR ap 28 [.mp st.length 0 0, .is t 1 .full] (st ++ [Ob.bld ByteArray.empty]) = some (.ret (.tup []), (st ++ [Ob.bld ByteArray.empty]).set st.length (Ob.bld X))) :
    CallR ap 12 [.is t 1 .full] st = some (.ret (if ok = true then .tup [.str X, .int .i64 0] else .tup [.str ⟨#[]⟩, .int .i64 700]), st) := by
  have hc := check_one t ok ht st hf
  have hset : (st ++ [Ob.bld ByteArray.empty]).set st.length (.bld X) = st ++ [.bld X] := by
    rw [List.set_append_right _ _ (Nat.le_refl _)]
    simp
  rw [forest_Html.call]
  cases ok with
  | false =>
    refine ret_keep ?_ rfl rfl (Keeps.refl _ _)
    rw [forest_Html.b_eq, hc]
    simp [Out.on, asI]
  | true =>
    refine ret_keep (st' := st ++ [.bld X]) ?_ rfl rfl (Keeps.app (Nat.le_refl _))
    rw [forest_Html.b_eq, hc]
    have hw := hw rfl
    rw [hset] at hw
    simp [Out.on, asI, hw, primA, bldGet]

theorem html_text (s : ByteArray) (hs : s.size < 9223372036854775800) (st : Sto) : CallR ap 12 [.is (tText s) 1 .full] st = some (.ret (if okT s = true then .tup [.str (mk (esc false s.data.toList)), .int .i64 0] else .tup [.str ⟨#[]⟩, .int .i64 700]), st) := by
  refine html_one _ _ ⟨_, _, _, rfl⟩ _ st (formed_text s hs) fun hok => ?_
  have hsz : s.size ≤ 4096 := by
    unfold okT at hok
    simp only [Bool.and_eq_true, decide_eq_true_eq] at hok
    exact hok.2
  have := write_text s hsz (st ++ [.bld ByteArray.empty]) st.length (by simp)
  exact this.trans (by congr 4)
theorem html_elem (s : ByteArray) (hs : s.size < 9223372036854775800) (st : Sto) : CallR ap 12 [.is (tElem s) 1 .full] st = some (.ret (if okT s = true then .tup [.str (⟨#[60, 97, 32, 98, 61, 34]⟩ ++ mk (esc true s.data.toList) ++ ⟨#[34, 62, 60, 47, 97, 62]⟩), .int .i64 0] else .tup [.str ⟨#[]⟩, .int .i64 700]), st) := by
  refine html_one _ _ ⟨_, _, _, rfl⟩ _ st (formed_elem s hs) fun hok => ?_
  have hsz : s.size ≤ 4096 := by
    unfold okT at hok
    simp only [Bool.and_eq_true, decide_eq_true_eq] at hok
    exact hok.2
  obtain ⟨R, l, h1, h2, h3⟩ := write_elem s hsz (st ++ [.bld ByteArray.empty]) st.length (by simp)
  exact h1.trans (by rw [h3, h2])

theorem texts (s t : ByteArray) (hs : s.size < 9223372036854775800) (ht : t.size < 9223372036854775800) : CallR ap 6 [.str s, .str t] [] = some (.ret (.bool true), []) := by
  rw [stencillaw7_ForestTexts.call]
  refine ret_keep ?_ rfl rfl (Keeps.refl _ _)
  rw [stencillaw7_ForestTexts.b_eq]
  have b1 : (aggA (fillA (fun i => ([(0, 1), (1, 1), (2, 1), (3, 1)] : List (Nat × Nat))[i]?) [.str ⟨#[]⟩, .str ⟨#[]⟩, .nils, .nils] [(1, (.str s))])) = some (.agg (tText s)) := rfl
  have b2 : (litS false 1 4 (fillA (fun i => some (i * 4, 4)) [.str ⟨#[]⟩, .str ⟨#[]⟩, .nils, .nils] [(0, .agg (tText s))]) []) = some (.is (tText s) 1 .full, []) := rfl
  have b3 : (aggA (fillA (fun i => ([(0, 1), (1, 1)] : List (Nat × Nat))[i]?) [.str ⟨#[]⟩, .str ⟨#[]⟩] [(0, (.str ⟨#[98]⟩)), (1, (.str t))])) = some (.agg [.str ⟨#[98]⟩, .str t]) := rfl
  have b4 : (litS false 1 2 (fillA (fun i => some (i * 2, 2)) [.str ⟨#[]⟩, .str ⟨#[]⟩] [(0, .agg [.str ⟨#[98]⟩, .str t])]) []) = some (.is [.str ⟨#[98]⟩, .str t] 1 .full, []) := rfl
  have b5 : (aggA (fillA (fun i => ([(0, 1), (1, 1), (2, 1), (3, 1)] : List (Nat × Nat))[i]?) [.str ⟨#[]⟩, .str ⟨#[]⟩, .nils, .nils] [(0, (.str ⟨#[97]⟩)), (2, .is [.str ⟨#[98]⟩, .str t] 1 .full)])) = some (.agg (tElem t)) := rfl
  have b6 : (litS false 1 4 (fillA (fun i => some (i * 4, 4)) [.str ⟨#[]⟩, .str ⟨#[]⟩, .nils, .nils] [(0, .agg (tElem t))]) []) = some (.is (tElem t) 1 .full, []) := rfl
  have okz : ∀ x : ByteArray, okT x = true → x.size ≤ 4096 := by
    intro x h
    unfold okT at h
    simp only [Bool.and_eq_true, decide_eq_true_eq] at h
    exact h.2
  have d7 : decide ((700 : Int) = 0) = false := rfl
  simp only [awake_spec, b1, b2, b3, b4, b5, b6, html_text s hs, html_elem t ht, Option.bind_some, Out.on, asB, Bool.not_true, cond_false]
  cases h1 : okT s with
  | true =>
    have z1 := okz s h1
    cases h2 : okT t with
    | true =>
      have z2 := okz t h2
      have he := esc_size true t z2
      have q1 : (⟨#[60, 97, 32, 98, 61, 34]⟩ : ByteArray).size + (mk (esc true t.data.toList)).size ≤ 9223372036854775807 := by
        have e1 : (⟨#[60, 97, 32, 98, 61, 34]⟩ : ByteArray).size = 6 := rfl
        omega
      have q2 : ((⟨#[60, 97, 32, 98, 61, 34]⟩ : ByteArray) ++ mk (esc true t.data.toList)).size + (⟨#[34, 62, 60, 47, 97, 62]⟩ : ByteArray).size ≤ 9223372036854775807 := by
        rw [ByteArray.size_append]
        have e1 : (⟨#[60, 97, 32, 98, 61, 34]⟩ : ByteArray).size = 6 := rfl
        have e2 : (⟨#[34, 62, 60, 47, 97, 62]⟩ : ByteArray).size = 6 := rfl
        omega
      simp only [if_true, ext, List.getElem?_cons_zero, List.getElem?_cons_succ, Option.bind_some, num_spec, Out.on, asI, decide_true, cond_true, cond_false, text s (by omega), attr t (by omega), asS, Bool.not_true, q1, q2, stencillaw7_ForestTexts.p111101_eq]
    | false =>
      simp only [if_true, Bool.false_eq_true, if_false, ext, List.getElem?_cons_zero, List.getElem?_cons_succ, Option.bind_some, num_spec, Out.on, asI, decide_true, d7, cond_true, cond_false, text s (by omega), asS, Bool.not_true, stencillaw7_ForestTexts.p111101_eq]
  | false =>
    cases h2 : okT t with
    | true =>
      have z2 := okz t h2
      have he := esc_size true t z2
      have q1 : (⟨#[60, 97, 32, 98, 61, 34]⟩ : ByteArray).size + (mk (esc true t.data.toList)).size ≤ 9223372036854775807 := by
        have e1 : (⟨#[60, 97, 32, 98, 61, 34]⟩ : ByteArray).size = 6 := rfl
        omega
      have q2 : ((⟨#[60, 97, 32, 98, 61, 34]⟩ : ByteArray) ++ mk (esc true t.data.toList)).size + (⟨#[34, 62, 60, 47, 97, 62]⟩ : ByteArray).size ≤ 9223372036854775807 := by
        rw [ByteArray.size_append]
        have e1 : (⟨#[60, 97, 32, 98, 61, 34]⟩ : ByteArray).size = 6 := rfl
        have e2 : (⟨#[34, 62, 60, 47, 97, 62]⟩ : ByteArray).size = 6 := rfl
        omega
      simp only [if_true, Bool.false_eq_true, if_false, ext, List.getElem?_cons_zero, List.getElem?_cons_succ, Option.bind_some, num_spec, Out.on, asI, decide_true, d7, cond_true, cond_false, attr t (by omega), asS, Bool.not_true, q1, q2, stencillaw7_ForestTexts.p111101_eq]
    | false =>
      simp only [if_true, Bool.false_eq_true, if_false, ext, List.getElem?_cons_zero, List.getElem?_cons_succ, Option.bind_some, num_spec, Out.on, asI, decide_true, d7, cond_true, cond_false, Bool.not_true, stencillaw7_ForestTexts.p111101_eq]

end Go.Proofs.YtjcpcglhjeoifaaDoor
