/- Texts of integers. -/
import Derived.Test.YtiiooldjegoikaaDoorR
import Derived.Lib.ItoaNum
namespace Go.Proofs.YtiiooldjegoikaaDoor
open Go.St Go.Lib
set_option linter.unusedVariables false
set_option linter.unusedSimpArgs false
def In (a : Int) : Prop := -9223372036854775808 ≤ a ∧ a < 9223372036854775808

theorem wi (x : Int) : IntKind.wrap .i64 x = if x % 18446744073709551616 ≥ 9223372036854775808 then x % 18446744073709551616 - 18446744073709551616 else x % 18446744073709551616 := by simp [IntKind.wrap, IntKind.bits, IntKind.signed]
theorem wu (x : Int) : IntKind.wrap .u64 x = x % 18446744073709551616 := by simp [IntKind.wrap, IntKind.bits, IntKind.signed]
theorem wi_id {x : Int} (h : In x) : IntKind.wrap .i64 x = x := by unfold In at h; rw [wi]; split <;> omega
theorem wu_id {x : Int} (h : 0 ≤ x ∧ x < 18446744073709551616) : IntKind.wrap .u64 x = x := by rw [wu]; omega

theorem wrap_in (x : Int) : In (IntKind.wrap .i64 x) := by unfold In; rw [wi]; split <;> omega

def sz (a : Int) : Int := if a < 0 then -a else a
theorem sz_cases (a : Int) : (a < 0 ∧ sz a = -a) ∨ (0 ≤ a ∧ sz a = a) := by unfold sz; split <;> omega
theorem sz_bound {a : Int} (h : In a) : 0 ≤ sz a ∧ sz a ≤ 9223372036854775808 := by unfold In at h; unfold sz; split <;> omega
theorem refSize_spec {a : Int} (ha : In a) (st : Sto) : CallR ap 59 [.int .i64 a] st = some (.ret (.int .u64 (sz a)), st) := by
  rw [stencilref1_size.call]
  refine ret_keep ?_ rfl rfl (Keeps.refl _ _)
  rw [stencilref1_size.b_eq]
  unfold In at ha
  unfold sz
  by_cases h : a < 0
  · simp only [h, decide_true, cond_true, if_true]
    rw [wi_id (x := a + 1) (by unfold In; omega), wi_id (x := 0 - (a + 1)) (by unfold In; omega), wu_id (x := 0 - (a + 1)) (by omega), wu_id (by omega)]
    congr 4
    omega
  · simp only [h, decide_false, cond_false, if_false]
    rw [wu_id (by omega)]
def mk (l : List UInt8) : ByteArray := ⟨l.toArray⟩
theorem mk_data (s : ByteArray) : mk s.data.toList = s := rfl
theorem mk_list (l : List UInt8) : (mk l).data.toList = l := by simp [mk]
theorem text_spec {a : Int} (h : In a) (st : Sto) : CallR ap 46 [.int .i64 a] st = some (.ret (.str (mk (itoa a))), st) := by
  unfold In at h
  have hp : primA .itoa [.int .i64 a] st = some (.ret (.str (mk (itoa a))), st) := by
    unfold primA
    exact if_pos (by omega)
  rw [whole_Text.call]
  refine ret_keep ?_ rfl rfl (Keeps.refl _ _)
  rw [whole_Text.b_eq]
  simp only [hp, Option.bind_some, Out.on]

theorem digit_of (k : Nat) (h : k < 10) : (UInt8.ofNat (48 + k)).toNat = 48 + k := by simp; omega
theorem dec_small {u : Nat} (h : u < 10) : decDigits u = [UInt8.ofNat (48 + u)] := by rw [decDigits, dif_pos h]
theorem dec_big {u : Nat} (h : ¬ u < 10) : decDigits u = decDigits (u / 10) ++ [UInt8.ofNat (48 + u % 10)] := by
  rw [decDigits, dif_neg h]
theorem dec_len (k : Nat) : ∀ x : Nat, x < 10 ^ (k + 1) → (decDigits x).length ≤ k + 1 := by
  induction k with
  | zero => intro x hx; rw [dec_small (by simpa using hx)]; exact Nat.le_refl _
  | succ k ih =>
    intro x hx
    by_cases h : x < 10
    · rw [dec_small h]; simp
    · rw [dec_big h, List.length_append]
      have := ih (x / 10) (by rw [Nat.pow_succ] at hx; omega)
      simp only [List.length_cons, List.length_nil]
      omega
theorem dec_len20 {x : Nat} (h : x < 18446744073709551616) : (decDigits x).length ≤ 20 := dec_len 19 x (by
  have : (10 : Nat) ^ (19 + 1) = 100000000000000000000 := by decide
  omega)
theorem itoa_len {a : Int} (h : In a) : (itoa a).length ≤ 21 := by
  unfold In at h
  unfold itoa
  split
  · have := dec_len20 (x := a.natAbs) (by omega)
    simp only [List.length_cons]
    omega
  · have := dec_len20 (x := a.toNat) (by omega)
    omega

/-! ### The document's Text -/
def Bf (x : AV) (acc : List UInt8) : Prop := (x = .nils ∧ acc = []) ∨ ∃ tok, x = .is (bytesL acc) acc.length tok
theorem bytesL_len (l : List UInt8) : (bytesL l).length = l.length := by simp [bytesL]
theorem Bf.len {x : AV} {acc : List UInt8} (h : Bf x acc) : lenL x = some acc.length := by
  rcases h with ⟨rfl, rfl⟩ | ⟨tok, rfl⟩ <;> rfl
theorem Bf.tail {x : AV} {acc : List UInt8} (h : Bf x acc) (st : Sto) : tailOf false 1 st x = some (bytesL acc, acc.length) := by
  rcases h with ⟨rfl, rfl⟩ | ⟨tok, rfl⟩
  · rfl
  · simp [tailOf, rowOf, bytesL_len]
theorem Bf.text {x : AV} {acc : List UInt8} (h : Bf x acc) (st : Sto) : toText st x = some (mk acc) := by
  rcases h with ⟨rfl, rfl⟩ | ⟨tok, rfl⟩
  · rfl
  · simp only [toText, rowOf, bytesL_len, Nat.mul_one, if_true, Option.bind_some, textOf_bytesL]
    rfl
theorem Bf.add {x : AV} {acc : List UInt8} (h : Bf x acc) (hl : acc.length ≤ 1000) (d : UInt8) (st : Sto) :
    ∃ x' st', appL false false 1 1 (.is [.int .u8 ((d.toNat : Nat) : Int)] 1 .full) x st = some (x', st') ∧ Bf x' (d :: acc) ∧ Keeps st.length st st' := by
  have hroom : room 1 (1 + acc.length) = true := decide_eq_true (by omega)
  simp only [appL, h.tail, Option.bind_some]
  by_cases h0 : acc.length = 0
  · have : acc = [] := List.eq_nil_of_length_eq_zero h0
    subst this
    exact ⟨_, _, by simp only [List.length_nil, if_true]; rfl, .inr ⟨.full, rfl⟩, Keeps.refl _ _⟩
  · simp only [h0, if_false, List.length_cons, List.length_nil, Nat.zero_add, Nat.mul_one, true_and, hroom, if_true, Bool.false_eq_true]
    exact ⟨_, _, rfl, .inr ⟨.tip st.length 0 1, by simp [bytesL]; omega⟩, Keeps.app (Nat.le_refl _)⟩

theorem refText_loop (a : Int) : ∀ (k : Nat) (x : Nat) (acc : List UInt8) (buf : AV) (st : Sto), x < 10 ^ k → x < 18446744073709551616 → acc.length + k ≤ 100 → (acc = [] → 0 < k) → Bf buf acc →
    ∃ buf' st', stencilref1_Text.p111000 a (.int .u64 ((x : Nat) : Int)) buf st = stencilref1_Text.p11100001 a (.int .u64 0) buf' false st' ∧ Bf buf' ((if x = 0 ∧ acc ≠ [] then [] else decDigits x) ++ acc) ∧ Keeps st.length st st' := by
  intro k
  induction k with
  | zero =>
    intro x acc buf st hx _ _ hne hb
    have hx0 : x = 0 := by simpa using hx
    subst hx0
    have hacc : acc ≠ [] := fun h => by have := hne h; omega
    refine ⟨buf, st, ?_, by rw [if_pos ⟨rfl, hacc⟩]; exact hb, Keeps.refl _ _⟩
    have hl : ¬ (((acc.length : Nat) : Int) = 0) := by have := List.length_pos_iff.2 hacc; omega
    rw [stencilref1_Text.p111000_eq]
    simp only [asI, if_true, Option.bind_some, show ¬ ((0 : Int) < (((0 : Nat)) : Int)) by omega, decide_false, cond_false, hb.len, hl]
    rfl
  | succ k ih =>
    intro x acc buf st hx hx2 hl hne hb
    by_cases hstop : x = 0 ∧ acc ≠ []
    · obtain ⟨rfl, hacc⟩ := hstop
      refine ⟨buf, st, ?_, by rw [if_pos ⟨rfl, hacc⟩]; exact hb, Keeps.refl _ _⟩
      have hl : ¬ (((acc.length : Nat) : Int) = 0) := by have := List.length_pos_iff.2 hacc; omega
      rw [stencilref1_Text.p111000_eq]
      simp only [asI, if_true, Option.bind_some, show ¬ ((0 : Int) < (((0 : Nat)) : Int)) by omega, decide_false, cond_false, hb.len, hl]
      rfl
    · have hgo : stencilref1_Text.p111000 a (.int .u64 ((x : Nat) : Int)) buf st = stencilref1_Text.p11100001 a (.int .u64 ((x : Nat) : Int)) buf true st := by
        rw [stencilref1_Text.p111000_eq]
        by_cases h0 : 0 < x
        · have e : ((0 : Int) < ((x : Nat) : Int)) := by omega
          simp only [asI, if_true, Option.bind_some, e, decide_true, cond_true]
        · have e : ¬ ((0 : Int) < ((x : Nat) : Int)) := by omega
          have hacc : acc = [] := Classical.byContradiction fun h => hstop ⟨by omega, h⟩
          simp only [asI, if_true, Option.bind_some, e, decide_false, cond_false, hb.len, hacc, List.length_nil]
          rfl
      obtain ⟨d, hd⟩ : ∃ d : UInt8, d = UInt8.ofNat (48 + x % 10) := ⟨_, rfl⟩
      have hdn : d.toNat = 48 + x % 10 := by rw [hd]; exact digit_of (x % 10) (by omega)
      have hdig : IntKind.wrap .u8 (IntKind.wrap .u64 (48 + Int.tmod ((x : Nat) : Int) 10)) = ((d.toNat : Nat) : Int) := by
        have e1 : Int.tmod ((x : Nat) : Int) 10 = ((x % 10 : Nat) : Int) := by rw [Int.tmod_eq_emod_of_nonneg (by omega)]; omega
        rw [e1, wu_id (by omega), hdn]
        simp [IntKind.wrap, IntKind.bits, IntKind.signed]
        omega
      have hq : IntKind.wrap .u64 (Int.tdiv ((x : Nat) : Int) 10) = ((x / 10 : Nat) : Int) := by
        have e1 : Int.tdiv ((x : Nat) : Int) 10 = ((x / 10 : Nat) : Int) := by rw [Int.tdiv_eq_ediv_of_nonneg (by omega)]; omega
        rw [e1, wu_id (by omega)]
      have hlit : litS false 1 1 (fillA (fun i => some (i * 1, 1)) [.int .u8 0] [(0, (.int .u8 ((d.toNat : Nat) : Int)))]) st = some (.is [.int .u8 ((d.toNat : Nat) : Int)] 1 .full, st) := lit_byte _ rfl st
      obtain ⟨buf1, st1, b1, b2, b3⟩ := hb.add (by omega) d st
      obtain ⟨buf', st', c1, c2, c3⟩ := ih (x / 10) (d :: acc) buf1 st1 (by rw [Nat.pow_succ] at hx; omega) (by omega) (by simp only [List.length_cons]; omega) (fun h => by simp at h) b2
      refine ⟨buf', st', ?_, ?_, ⟨by have := b3.len; have := c3.len; omega, fun i hi => by have := b3.len; rw [c3.at_ i (by omega), b3.at_ i hi]⟩⟩
      · rw [hgo, stencilref1_Text.p11100001_eq]
        simp only [cond_true, asI, if_true, Option.bind_some, hdig, hlit, b1, hq]
        exact c1
      · rw [if_neg hstop]
        have : (if x / 10 = 0 ∧ d :: acc ≠ [] then [] else decDigits (x / 10)) ++ d :: acc = decDigits x ++ acc := by
          by_cases h10 : x < 10
          · rw [if_pos ⟨by omega, by simp⟩, dec_small h10, hd, Nat.mod_eq_of_lt h10]
            rfl
          · rw [if_neg (by omega), dec_big h10, hd, List.append_assoc]
            rfl
        rw [this] at c2
        exact c2

theorem refText_spec {a : Int} (h : In a) (st : Sto) : CallR ap 47 [.int .i64 a] st = some (.ret (.str (mk (itoa a))), st) := by
  have hsz := refSize_spec h st
  have hb := sz_bound h
  obtain ⟨x, hx⟩ : ∃ x : Nat, sz a = (x : Int) := ⟨(sz a).toNat, by omega⟩
  rw [hx] at hsz hb
  have hxa : x = a.natAbs := by
    rcases sz_cases a with ⟨h1, h2⟩ | ⟨h1, h2⟩ <;> omega
  obtain ⟨buf, st1, c1, c2, c3⟩ := refText_loop a 20 x [] .nils st (by
    have : (10 : Nat) ^ 20 = 100000000000000000000 := by decide
    omega) (by omega) (by simp) (fun _ => by omega) (.inl ⟨rfl, rfl⟩)
  rw [if_neg (by simp), List.append_nil] at c2
  have hlen : (decDigits x).length ≤ 100 := by
    have := dec_len20 (x := x) (by omega)
    omega
  rw [stencilref1_Text.call]
  unfold itoa
  by_cases h0 : a < 0
  · obtain ⟨buf2, st2, d1, d2, d3⟩ := c2.add (by omega) 45 st1
    have hlit : litS false 1 1 (fillA (fun i => some (i * 1, 1)) [.int .u8 0] [(0, (.int .u8 45))]) st1 = some (.is [.int .u8 (((45 : UInt8).toNat : Nat) : Int)] 1 .full, st1) := lit_byte _ rfl st1
    rw [if_pos h0]
    refine ret_keep (st' := st2) ?_ rfl rfl ⟨by have := c3.len; have := d3.len; omega, fun i hi => by have := c3.len; rw [d3.at_ i (by omega), c3.at_ i hi]⟩
    rw [stencilref1_Text.b_eq]
    simp only [hsz, Option.bind_some, Out.on, c1]
    rw [stencilref1_Text.p11100001_eq]
    simp only [cond_false, h0, decide_true, cond_true, hlit, Option.bind_some, d1]
    rw [stencilref1_Text.p11111_eq, d2.text, hxa]
    rfl
  · rw [if_neg h0]
    refine ret_keep (st' := st1) ?_ rfl rfl c3
    rw [stencilref1_Text.b_eq]
    simp only [hsz, Option.bind_some, Out.on, c1]
    rw [stencilref1_Text.p11100001_eq]
    simp only [cond_false, h0, decide_false]
    rw [stencilref1_Text.p11111_eq, c2.text, show x = a.toNat by omega]
    rfl

/-! ### The law -/
end Go.Proofs.YtiiooldjegoikaaDoor
