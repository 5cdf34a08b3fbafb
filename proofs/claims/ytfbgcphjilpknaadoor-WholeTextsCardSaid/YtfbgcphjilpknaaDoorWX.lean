/- Digits on the machine: Parse and Text. -/
import Derived.Test.YtfbgcphjilpknaaDoorWT
import Derived.Test.YtfbgcphjilpknaaDoorW
import Derived.Test.YtfbgcphjilpknaaDoorStEv
namespace Go.Proofs.YtfbgcphjilpknaaDoor
open Go.St Go.Lib
set_option linter.unusedVariables false
set_option linter.unusedSimpArgs false

def mk (l : List UInt8) : ByteArray := ⟨l.toArray⟩
theorem mk_data (s : ByteArray) : mk s.data.toList = s := rfl
theorem mk_list (l : List UInt8) : (mk l).data.toList = l := by simp [mk]
theorem size_list (s : ByteArray) : s.size = s.data.toList.length := by rw [Array.length_toList]; rfl
theorem ba_ext {a b : ByteArray} : a = b ↔ a.data.toList = b.data.toList := ⟨fun h => by rw [h], fun h => ByteArray.ext (Array.ext' h)⟩
theorem ext_list (s : ByteArray) (i j : Nat) : (ByteArray.extract s i j).data.toList = (s.data.toList.drop i).take (j - i) := by
  rw [ByteArray.data_extract, Array.toList_extract]
theorem drop_at {s : ByteArray} {a : Nat} (h : a < s.size) : ∃ c, byt s a = ((c.toNat : Nat) : Int) ∧ s.data.toList.drop a = c :: s.data.toList.drop (a + 1) := by
  obtain ⟨c, h1, h2, _⟩ := byt_at h
  refine ⟨c, h2, ?_⟩
  obtain ⟨k1, k2⟩ := List.getElem?_eq_some_iff.1 h1
  rw [List.drop_eq_getElem_cons k1, k2]
theorem drop_out {s : ByteArray} {a : Nat} (h : s.size ≤ a) : s.data.toList.drop a = [] := List.drop_of_length_le (by rw [← size_list]; exact h)
theorem tail_list (s : ByteArray) : (ByteArray.extract s 1 s.size).data.toList = s.data.toList.drop 1 := by
  rw [ext_list, List.take_of_length_le (by rw [List.length_drop, ← size_list]; exact Nat.le_refl _)]
theorem bnd_one {s : ByteArray} (h : 0 < s.size) : bnd 0 s.size (some (.int .i64 1)) = some 1 := by
  have : (0 : Int) ≤ 1 ∧ (1 : Int) ≤ ((s.size : Nat) : Int) := by omega
  simp only [bnd, this, and_self, if_true]
  rfl
theorem w64 {x : Int} (k : Nat) (h : x = k) (hk : k < 9223372036854775808) : IntKind.wrap .i64 x = (k : Int) := by rw [h]; exact wrap64 (by omega) (by omega)
theorem head_eq {s : ByteArray} (h : 0 < s.size) (k : UInt8) : decide (byt s 0 = ((k.toNat : Nat) : Int)) = (match s.data.toList with | [] => false | c :: _ => decide (c = k)) := by
  obtain ⟨c, h1, h2⟩ := drop_at h
  rw [List.drop_zero] at h2
  rw [h1, h2]
  exact decide_eq_decide.2 ⟨fun e => UInt8.toNat_inj.1 (by omega), fun e => by rw [e]⟩
theorem idx00 {n : Nat} (h : 0 < n) : idx 0 n = some 0 := by have := idx_nat h; simpa using this

theorem num_spec (a : Int) (st : Sto) : CallR ap 13 [.int .i64 a] st = some (.ret (.int .i64 a), st) := by
  rw [stencillaw0_Num.call]
  exact ret_keep (stencillaw0_Num.b_eq a st) rfl rfl (Keeps.refl _ _)
theorem fine_spec (a b c d : Int) (st : Sto) : CallR ap 11 [.int .i64 a, .int .i64 b, .int .i64 c, .int .i64 d] st = some (.ret (.bool (decide (a = c) && decide (b = d))), st) := by
  rw [stencillaw1_fine.call]
  refine ret_keep ?_ rfl rfl (Keeps.refl _ _)
  rw [stencillaw1_fine.b_eq]
  by_cases h : a = c
  · simp only [h, decide_true, cond_true, num_spec, Option.bind_some, Out.on, asI, if_true, Bool.true_and]
  · simp only [h, decide_false, cond_false, Bool.false_and]

theorem formed_loop {s : ByteArray} (hs : s.size ≤ 281474976710656) : ∀ (m i : Nat), i + m = s.size → ∀ st : Sto, whole_formed.p1110100 s ((s.size : Nat) : Int) ((i : Nat) : Int) st = some ⟨.ret (.bool ((s.data.toList.drop i).all dig && headOk s.data.toList)), none, st⟩ := by
  intro m
  induction m with
  | zero =>
    intro i hm st
    have hlt : ¬ ((i : Int) < ((s.size : Nat) : Int)) := by omega
    rw [whole_formed.p1110100_eq]
    simp only [hlt, decide_false, cond_false]
    rw [drop_out (by omega)]
    by_cases h0 : 0 < s.size
    · have e0 : ((0 : Int) < ((s.size : Nat) : Int)) := by omega
      have hh := head_eq h0 48
      rw [show (((48 : UInt8).toNat : Nat) : Int) = 48 from rfl] at hh
      simp only [e0, decide_true, cond_true, idx00 h0, Option.bind_some, hh, List.all_nil, Bool.true_and]
      have hlen : 0 < s.data.toList.length := by rw [← size_list]; exact h0
      cases hq : s.data.toList with
      | nil => rw [hq] at hlen; simp at hlen
      | cons c r => rfl
    · have e0 : ¬ ((0 : Int) < ((s.size : Nat) : Int)) := by omega
      have : s.data.toList = [] := List.eq_nil_of_length_eq_zero (by rw [← size_list]; omega)
      simp only [e0, decide_false, cond_false, this]
      rfl
  | succ m ih =>
    intro i hm st
    have hlt : ((i : Int) < ((s.size : Nat) : Int)) := by omega
    have hlt' : i < s.size := by omega
    obtain ⟨c, h1, h2⟩ := drop_at hlt'
    have hw : IntKind.wrap .i64 ((i : Int) + 1) = ((i + 1 : Nat) : Int) := w64 _ (by omega) (by omega)
    have e1 : (((c.toNat : Nat) : Int) < 48) = (c.toNat < 48) := propext ⟨fun h => by omega, fun h => by omega⟩
    have e2 : ((57 : Int) < ((c.toNat : Nat) : Int)) = (57 < c.toNat) := propext ⟨fun h => by omega, fun h => by omega⟩
    rw [whole_formed.p1110100_eq]
    simp only [hlt, decide_true, cond_true, idx_nat hlt', Option.bind_some, h1, e1, e2]
    rw [h2]
    by_cases k1 : c.toNat < 48
    · have hd : dig c = false := by simp [dig]; omega
      simp only [k1, decide_true, cond_true, List.all_cons, hd, Bool.false_and]
      rw [whole_formed.p1110100110011_eq]
      rfl
    · by_cases k2 : 57 < c.toNat
      · have hd : dig c = false := by simp [dig]; omega
        simp only [k1, k2, decide_false, decide_true, cond_false, List.all_cons, hd, Bool.false_and]
        rw [whole_formed.p1110100110011_eq]
        rfl
      · have hd : dig c = true := by simp [dig]; omega
        simp only [k1, k2, decide_false, cond_false, List.all_cons, hd, Bool.true_and]
        rw [whole_formed.p1110100110011_eq]
        simp only [cond_false, hw, ih (i + 1) (by omega)]

theorem formed_spec (s : ByteArray) (hs : s.size ≤ 281474976710656) (st : Sto) : CallR ap 36 [.str s] st = some (.ret (.bool (formedB s.data.toList)), st) := by
  rw [whole_formed.call]
  refine ret_keep ?_ rfl rfl (Keeps.refl _ _)
  rw [whole_formed.b_eq]
  unfold formedB
  have e48 : decide (s = (⟨#[48]⟩ : ByteArray)) = decide (s.data.toList = [48]) := decide_eq_decide.2 ba_ext
  rw [e48]
  by_cases h0 : s.data.toList = [48]
  · simp only [h0, decide_true, cond_true, Bool.true_or]
  · simp only [h0, decide_false, cond_false, Bool.false_or]
    have lp : ∀ t : ByteArray, t.size ≤ 281474976710656 → whole_formed.p111 t st = some ⟨.ret (.bool (bodyB t.data.toList)), none, st⟩ := by
      intro t ht
      rw [whole_formed.p111_eq]
      have := formed_loop ht t.size 0 (by omega) st
      rw [List.drop_zero] at this
      exact this
    by_cases hz : 0 < s.size
    · have e0 : ((0 : Int) < ((s.size : Nat) : Int)) := by omega
      have hh := head_eq hz 45
      rw [show (((45 : UInt8).toNat : Nat) : Int) = 45 from rfl] at hh
      have hbel : below s.data.toList = decide (byt s 0 = 45) := by rw [hh]; cases s.data.toList <;> rfl
      simp only [e0, decide_true, cond_true, idx00 hz, Option.bind_some]
      rw [whole_formed.p1101_eq]
      unfold rest
      rw [hbel]
      cases decide (byt s 0 = 45) with
      | true =>
        have ht : (ByteArray.extract s 1 s.size).size ≤ 281474976710656 := by
          rw [size_list, tail_list, List.length_drop, ← size_list]
          omega
        simp only [cond_true, bnd_one hz, Option.bind_some, lp _ ht, tail_list, if_true]
      | false => simp only [cond_false, lp s hs, Bool.false_eq_true, if_false]
    · have e0 : ¬ ((0 : Int) < ((s.size : Nat) : Int)) := by omega
      have : s.data.toList = [] := List.eq_nil_of_length_eq_zero (by rw [← size_list]; omega)
      simp only [e0, decide_false, cond_false]
      rw [whole_formed.p1101_eq]
      simp only [cond_false, lp s hs, this]
      rfl

theorem parse_spec (s : ByteArray) (hs : s.size ≤ 281474976710656) (st : Sto) : CallR ap 14 [.str s] st = some (.ret (.tup [.int .i64 (ansN s.data.toList).1, .int .i64 (ansN s.data.toList).2]), st) := by
  rw [whole_Parse.call, ← parse_ans]
  refine ret_keep ?_ rfl rfl (Keeps.refl _ _)
  rw [whole_Parse.b_eq, formed_spec s hs]
  unfold parseN
  cases hf : formedB s.data.toList with
  | false => rfl
  | true =>
    simp only [Option.bind_some, Out.on, asB, Bool.not_true, cond_false, if_true]
    cases ha : atoiAll s.data.toList
    · rename_i v
      have hp : ∀ t, primA (.atoi t) [.str s] st = some (.ret (.tup [.int .i64 v, .nili]), st) := fun t => by
        unfold primA
        simp only [hs, if_true, ha]
      rw [hp]
      rfl
    · have hp : ∀ t, primA (.atoi t) [.str s] st = some (.ret (.tup [.int .i64 0, .ifc t .any]), st) := fun t => by
        unfold primA
        simp only [hs, if_true, ha]
      rw [hp]
      rfl
    · have hp : ∀ t, primA (.atoi t) [.str s] st = some (.ret (.tup [.int .i64 (atoiSat s.data.toList), .ifc t .any]), st) := fun t => by
        unfold primA
        simp only [hs, if_true, ha]
      rw [hp]
      rfl

theorem text_spec {a : Int} (h : In a) (st : Sto) : CallR ap 16 [.int .i64 a] st = some (.ret (.str (mk (itoa a))), st) := by
  unfold In at h
  have hp : primA .itoa [.int .i64 a] st = some (.ret (.str (mk (itoa a))), st) := by
    unfold primA
    exact if_pos (by omega)
  rw [whole_Text.call]
  refine ret_keep ?_ rfl rfl (Keeps.refl _ _)
  rw [whole_Text.b_eq]
  simp only [hp, Option.bind_some, Out.on]

/-! ### The document's Parse -/
theorem fit_exact (neg : Bool) (v : Nat) : exa (if neg = true then -(v : Int) else v) = fitN neg v := by
  unfold fitN
  cases neg with
  | true =>
    simp only [if_true]
    by_cases h : v ≤ 9223372036854775808
    · rw [if_pos h, exa_in (by unfold In; omega)]
    · rw [if_neg h, exa_out (by unfold In; omega)]
  | false =>
    simp only [Bool.false_eq_true, if_false]
    by_cases h : v < 9223372036854775808
    · rw [if_pos h, exa_in (by unfold In; omega)]
    · rw [if_neg h, exa_out (by unfold In; omega)]

def refOut (neg : Bool) (V : Nat) (l : List UInt8) (st : Sto) : Option Res :=
  some ⟨.ret (.tup [.int .i64 (if l.all dig = true then fitN neg (valN V l) else (0, 104)).1, .int .i64 (if l.all dig = true then fitN neg (valN V l) else (0, 104)).2]), none, st⟩
theorem refOut_no {neg : Bool} {V : Nat} {c : UInt8} {r : List UInt8} {st : Sto} (hd : dig c = false) : refOut neg V (c :: r) st = some ⟨.ret (.tup [.int .i64 0, .int .i64 104]), none, st⟩ := by
  unfold refOut
  rw [if_neg (by simp [hd])]
theorem refOut_yes {neg : Bool} {V : Nat} {c : UInt8} {r : List UInt8} {st : Sto} (hd : dig c = true) : refOut neg V (c :: r) st = refOut neg (10 * V + (c.toNat - 48)) r st := by
  unfold refOut
  rw [List.all_cons, hd, Bool.true_and, valN_cons]
theorem refOut_nil {neg : Bool} {V : Nat} {st : Sto} : refOut neg V [] st = some ⟨.ret (.tup [.int .i64 (fitN neg V).1, .int .i64 (fitN neg V).2]), none, st⟩ := by
  unfold refOut
  rw [List.all_nil, if_pos rfl, valN_nil]

theorem refP_loop {t : ByteArray} (ht : t.size ≤ 281474976710656) (neg : Bool) : ∀ (m i : Nat), i + m = t.size → ∀ (V : Nat) (x : Int) (over : Bool) (st : Sto), (0 ≤ x ∧ x < 18446744073709551616) → ((over = false ∧ x = (V : Int)) ∨ (over = true ∧ 9223372036854775808 < V)) →
    stencilref1_Parse.p11111110100 t neg x over ((i : Nat) : Int) st = refOut neg V (t.data.toList.drop i) st := by
  intro m
  induction m with
  | zero =>
    intro i hm V x over st hx hv
    have hlt : ¬ ((i : Int) < ((t.size : Nat) : Int)) := by omega
    rw [stencilref1_Parse.p11111110100_eq]
    simp only [hlt, decide_false, cond_false]
    rw [drop_out (by omega), refOut_nil]
    rcases hv with ⟨rfl, rfl⟩ | ⟨rfl, hv⟩
    · have hb := back_ret neg 0 (V : Int) (if neg = true then -(V : Int) else V) (by omega) hx (by cases neg <;> simp) st
      simp only [cond_false]
      rw [hb, ← fit_exact]
      rfl
    · have : fitN neg V = (0, 100) := by
        unfold fitN
        cases neg
        · simp only [Bool.false_eq_true, if_false]
          rw [if_neg (by omega)]
        · simp only [if_true]
          rw [if_neg (by omega)]
      rw [this]
      rfl
  | succ m ih =>
    intro i hm V x over st hx hv
    have hlt : ((i : Int) < ((t.size : Nat) : Int)) := by omega
    have hlt' : i < t.size := by omega
    obtain ⟨c, h1, h2⟩ := drop_at hlt'
    have hw : IntKind.wrap .i64 ((i : Int) + 1) = ((i + 1 : Nat) : Int) := w64 _ (by omega) (by omega)
    have e1 : (((c.toNat : Nat) : Int) < 48) = (c.toNat < 48) := propext ⟨fun h => by omega, fun h => by omega⟩
    have e2 : ((57 : Int) < ((c.toNat : Nat) : Int)) = (57 < c.toNat) := propext ⟨fun h => by omega, fun h => by omega⟩
    rw [stencilref1_Parse.p11111110100_eq]
    simp only [hlt, decide_true, cond_true, idx_nat hlt', Option.bind_some, h1, e1, e2]
    rw [h2]
    by_cases k1 : c.toNat < 48
    · have hd : dig c = false := by simp [dig]; omega
      rw [refOut_no hd]
      simp only [k1, decide_true, cond_true]
      rw [stencilref1_Parse.p1111111010010001_eq]
      rfl
    · by_cases k2 : 57 < c.toNat
      · have hd : dig c = false := by simp [dig]; omega
        rw [refOut_no hd]
        simp only [k1, k2, decide_false, decide_true, cond_false]
        rw [stencilref1_Parse.p1111111010010001_eq]
        rfl
      · have hd : dig c = true := by simp [dig]; omega
        have w8 : IntKind.wrap .u8 (((c.toNat : Nat) : Int) - 48) = ((c.toNat - 48 : Nat) : Int) := by
          simp [IntKind.wrap, IntKind.bits, IntKind.signed]
          omega
        have wz : ∀ y : Int, 0 ≤ IntKind.wrap .u64 y ∧ IntKind.wrap .u64 y < 18446744073709551616 := fun y => by rw [wu]; omega
        rw [refOut_yes hd]
        simp only [k1, k2, decide_false, cond_false]
        rw [stencilref1_Parse.p1111111010010001_eq]
        simp only [cond_false]
        have step : ∀ over', ((over' = false ∧ over = false ∧ x ≤ 1844674407370955160) ∨ (over' = true ∧ (over = true ∨ 1844674407370955160 < x))) →
            stencilref1_Parse.p1111111010010011 t neg x over' ((i : Nat) : Int) st = refOut neg (10 * V + (c.toNat - 48)) (t.data.toList.drop (i + 1)) st := fun over' ho => by
          rw [stencilref1_Parse.p1111111010010011_eq]
          simp only [idx_nat hlt', Option.bind_some, h1, hw, w8]
          refine ih (i + 1) (by omega) (10 * V + (c.toNat - 48)) _ over' st (wz _) ?_
          rcases ho with ⟨rfl, rfl, hx2⟩ | ⟨rfl, ho⟩
          · rcases hv with ⟨_, rfl⟩ | ⟨hv, _⟩
            · left
              refine ⟨rfl, ?_⟩
              rw [wu_id (x := 10 * (V : Int)) (by omega), wu_id (x := ((c.toNat - 48 : Nat) : Int)) (by omega), wu_id (by omega)]
              omega
            · cases hv
          · right
            refine ⟨rfl, ?_⟩
            rcases hv with ⟨rfl, rfl⟩ | ⟨rfl, hv⟩
            · rcases ho with ho | ho
              · cases ho
              · omega
            · omega
        cases over with
        | true =>
          simp only [cond_true]
          exact step true (.inr ⟨rfl, .inl rfl⟩)
        | false =>
          simp only [cond_false]
          by_cases hx2 : 1844674407370955160 < x
          · rw [decide_eq_true hx2]
            exact step true (.inr ⟨rfl, .inr hx2⟩)
          · rw [decide_eq_false hx2]
            exact step false (.inl ⟨rfl, rfl, by omega⟩)

theorem refP_end {s t : ByteArray} (ht : t.size ≤ 281474976710656) (neg : Bool) (hst : t.data.toList = [48] → s.data.toList = [48] ∨ neg = true) (st : Sto) (hs48 : s.data.toList = [48] → t = s ∧ neg = false) :
    stencilref1_Parse.p1111 s t neg st = some ⟨.ret (.tup [.int .i64 (if s.data.toList = [48] then (0, 0) else body neg t.data.toList).1, .int .i64 (if s.data.toList = [48] then (0, 0) else body neg t.data.toList).2]), none, st⟩ := by
  have loop := refP_loop ht neg t.size 0 (by omega) 0 0 false st (by omega) (.inl ⟨rfl, rfl⟩)
  rw [List.drop_zero] at loop
  have e48 : decide (s = (⟨#[48]⟩ : ByteArray)) = decide (s.data.toList = [48]) := decide_eq_decide.2 ba_ext
  rw [stencilref1_Parse.p1111_eq]
  by_cases hz : t.size = 0
  · have e0 : (((t.size : Nat) : Int) = 0) := by omega
    have htl : t.data.toList = [] := List.eq_nil_of_length_eq_zero (by rw [← size_list]; omega)
    have hne : ¬ s.data.toList = [48] := fun h => by
      obtain ⟨rfl, _⟩ := hs48 h
      rw [h] at htl
      cases htl
    simp only [e0, decide_true, cond_true]
    rw [stencilref1_Parse.p111101_eq, if_neg hne, htl]
    rfl
  · have e0 : ¬ (((t.size : Nat) : Int) = 0) := by omega
    have hz' : 0 < t.size := by omega
    have hh := head_eq hz' 48
    rw [show (((48 : UInt8).toNat : Nat) : Int) = 48 from rfl] at hh
    simp only [e0, decide_false, cond_false, idx00 hz', Option.bind_some, hh]
    cases htl : t.data.toList with
    | nil => rw [size_list, htl] at hz'; simp at hz'
    | cons c r =>
      simp only
      by_cases hc : c = 48
      · simp only [hc, decide_true, cond_true, e48]
        rw [stencilref1_Parse.p111101_eq]
        by_cases h48 : s.data.toList = [48]
        · obtain ⟨rfl, rfl⟩ := hs48 h48
          simp only [h48, decide_true, Bool.not_true, cond_false, if_true]
          refine loop.trans ?_
          rw [h48]
          rfl
        · simp only [h48, decide_false, Bool.not_false, cond_true, if_false]
          have : body neg (48 :: r) = (0, 104) := by
            unfold body bodyB
            rw [show headOk (48 :: r) = false from rfl, Bool.and_false]
            rfl
          rw [this]
      · simp only [hc, decide_false, cond_false]
        rw [stencilref1_Parse.p111101_eq]
        have h48 : ¬ s.data.toList = [48] := fun h => by
          obtain ⟨rfl, _⟩ := hs48 h
          rw [h] at htl
          injection htl with htl _
          exact hc htl.symm
        simp only [cond_false]
        rw [if_neg h48]
        refine loop.trans ?_
        rw [htl]
        unfold body bodyB refOut
        rw [show headOk (c :: r) = true by simp [headOk, hc], Bool.and_true]

theorem refParse_spec (s : ByteArray) (hs : s.size ≤ 281474976710656) (st : Sto) : CallR ap 15 [.str s] st = some (.ret (.tup [.int .i64 (ansN s.data.toList).1, .int .i64 (ansN s.data.toList).2]), st) := by
  rw [stencilref1_Parse.call]
  refine ret_keep ?_ rfl rfl (Keeps.refl _ _)
  rw [stencilref1_Parse.b_eq]
  unfold ansN rest
  by_cases hz : 0 < s.size
  · have e0 : ((0 : Int) < ((s.size : Nat) : Int)) := by omega
    have hh := head_eq hz 45
    rw [show (((45 : UInt8).toNat : Nat) : Int) = 45 from rfl] at hh
    have hbel : below s.data.toList = decide (byt s 0 = 45) := by rw [hh]; cases s.data.toList <;> rfl
    simp only [e0, decide_true, cond_true, idx00 hz, Option.bind_some]
    rw [stencilref1_Parse.p111_eq, ← hbel]
    cases hb : below s.data.toList with
    | true =>
      have ht : (ByteArray.extract s 1 s.size).size ≤ 281474976710656 := by
        rw [size_list, tail_list, List.length_drop, ← size_list]
        omega
      have hne : s.data.toList = [48] → False := fun h => by rw [h] at hb; cases hb
      simp only [cond_true, bnd_one hz, Option.bind_some, if_true]
      rw [refP_end ht true (fun _ => .inr rfl) st (fun h => (hne h).elim), tail_list]
    | false =>
      simp only [cond_false, Bool.false_eq_true, if_false]
      rw [refP_end hs false (fun h => .inl h) st (fun h => ⟨rfl, rfl⟩)]
  · have e0 : ¬ ((0 : Int) < ((s.size : Nat) : Int)) := by omega
    have hl : s.data.toList = [] := List.eq_nil_of_length_eq_zero (by rw [← size_list]; omega)
    simp only [e0, decide_false, cond_false]
    rw [stencilref1_Parse.p111_eq]
    simp only [cond_false]
    rw [refP_end hs false (fun h => .inl h) st (fun h => ⟨rfl, rfl⟩), hl]
    rfl
end Go.Proofs.YtfbgcphjilpknaaDoor
