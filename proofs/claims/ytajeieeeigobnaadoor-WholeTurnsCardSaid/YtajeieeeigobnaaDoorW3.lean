/- Integers that never wrap round: shifts, fewer bits. -/
import Derived.Test.YtajeieeeigobnaaDoorW2
namespace Go.Proofs.YtajeieeeigobnaaDoor
open Go.St
set_option linter.unusedVariables false
set_option linter.unusedSimpArgs false

theorem far_spec (k : Int) (st : Sto) : CallR ap 39 [.int .i64 k] st = some (.ret (.bool (decide (k < 0 ∨ 63 < k))), st) := by
  rw [whole_far.call]
  refine ret_keep ?_ rfl rfl (Keeps.refl _ _)
  rw [whole_far.b_eq]
  by_cases h : k < 0
  · simp [h]
  · simp [h]

def pw (n : Nat) : Int := ((2 ^ n : Nat) : Int)
theorem pw_eq (n : Nat) : (2 : Int) ^ n = pw n := by unfold pw; simp
theorem pw_bound {n : Nat} (h : n ≤ 63) : 1 ≤ pw n ∧ pw n ≤ 9223372036854775808 := by
  have h1 : 0 < 2 ^ n := Nat.two_pow_pos n
  have h2 : 2 ^ n ≤ 2 ^ 63 := Nat.pow_le_pow_right (by decide) h
  unfold pw
  omega
theorem pw_succ (n : Nat) : pw (n + 1) = 2 * pw n := by unfold pw; rw [Nat.pow_succ]; omega

noncomputable def shlOut (a k : Int) : AV := if k < 0 ∨ 63 < k then .tup [.int .i64 0, .int .i64 102] else exact (a * pw k.toNat)
noncomputable def shrOut (a k : Int) : AV := if k < 0 ∨ 63 < k then .tup [.int .i64 0, .int .i64 102] else exact (a / pw k.toNat)
theorem shlOut_keep (a k : Int) (n : Nat) : (shlOut a k).strip n = shlOut a k ∧ (shlOut a k).old n = true := by unfold shlOut; split <;> exact ⟨rfl, rfl⟩
theorem shrOut_keep (a k : Int) (n : Nat) : (shrOut a k).strip n = shrOut a k ∧ (shrOut a k).old n = true := by unfold shrOut; split <;> exact ⟨rfl, rfl⟩

theorem shr_eq (x : Int) {k : Int} (hk : 0 ≤ k ∧ k ≤ 63) : shrI .i64 x k = x / pw k.toNat := by
  unfold shrI
  have hb := pw_bound (n := k.toNat) (by omega)
  rw [show min k.toNat IntKind.i64.bits = k.toNat by show min k.toNat 64 = k.toNat; omega, pw_eq, Int.fdiv_eq_ediv_of_nonneg _ (by omega)]
theorem shl_eq (x : Int) {k : Int} (hk : 0 ≤ k ∧ k ≤ 63) : shlI .i64 x k = IntKind.wrap .i64 (x * pw k.toNat) := by
  unfold shlI
  rw [show min k.toNat IntKind.i64.bits = k.toNat by show min k.toNat 64 = k.toNat; omega, pw_eq]

theorem div_in {a p : Int} (ha : In a) (hp : 1 ≤ p) : In (a / p) := by
  unfold In at *
  have h1 : 9223372036854775808 * 1 ≤ 9223372036854775808 * p := Int.mul_le_mul_of_nonneg_left hp (by decide)
  constructor
  · rw [Int.le_ediv_iff_mul_le (by omega)]; omega
  · rw [Int.ediv_lt_iff_lt_mul (by omega)]; omega

theorem shl_spec {a k : Int} (ha : In a) (st : Sto) : CallR ap 22 [.int .i64 a, .int .i64 k] st = some (.ret (shlOut a k), st) := by
  rw [whole_Shl.call]
  refine ret_keep ?_ (shlOut_keep _ _ _).1 (shlOut_keep _ _ _).2 (Keeps.refl _ _)
  rw [whole_Shl.b_eq]
  unfold shlOut
  by_cases h : k < 0 ∨ 63 < k
  · simp only [far_spec, Option.bind_some, Out.on, asB, h, decide_true, cond_true, if_true]
  · have hk : 0 ≤ k ∧ k ≤ 63 := by omega
    have hk' : ¬ k < 0 := by omega
    have hk2 : ¬ 63 < k := by omega
    have hb := pw_bound (n := k.toNat) (by omega)
    simp only [far_spec, Option.bind_some, Out.on, asB, h, decide_false, cond_false, if_false, wu_id (x := k) (by omega), hk', hk2, or_self, shr_eq _ hk, shl_eq _ hk]
    generalize pw k.toNat = p at *
    have hs := wrap_in (a * p)
    by_cases hi : In (a * p)
    · rw [exact_in hi, wi_id hi, Int.mul_ediv_cancel _ (by omega)]
      simp only [decide_true, Bool.not_true, cond_false]
    · rw [exact_out hi]
      have : ¬ IntKind.wrap .i64 (a * p) / p = a := by
        intro he
        have h1 : IntKind.wrap .i64 (a * p) / p * p ≤ IntKind.wrap .i64 (a * p) := Int.ediv_mul_le _ (by omega)
        have h2 : IntKind.wrap .i64 (a * p) < (IntKind.wrap .i64 (a * p) / p + 1) * p := Int.lt_ediv_add_one_mul_self _ (by omega)
        rw [he] at h1 h2
        rw [Int.add_mul, Int.one_mul] at h2
        unfold In at hi hs
        rw [wi] at h1 h2 hs
        split at h1 <;> omega
      simp only [this, decide_false, Bool.not_false, cond_true]

theorem shr_spec {a k : Int} (ha : In a) (st : Sto) : CallR ap 23 [.int .i64 a, .int .i64 k] st = some (.ret (shrOut a k), st) := by
  rw [whole_Shr.call]
  refine ret_keep ?_ (shrOut_keep _ _ _).1 (shrOut_keep _ _ _).2 (Keeps.refl _ _)
  rw [whole_Shr.b_eq]
  unfold shrOut
  by_cases h : k < 0 ∨ 63 < k
  · simp only [far_spec, Option.bind_some, Out.on, asB, h, decide_true, cond_true, if_true]
  · have hk : 0 ≤ k ∧ k ≤ 63 := by omega
    have hk' : ¬ k < 0 := by omega
    have hk2 : ¬ 63 < k := by omega
    have hb := pw_bound (n := k.toNat) (by omega)
    simp only [far_spec, Option.bind_some, Out.on, asB, h, decide_false, cond_false, if_false, wu_id (x := k) (by omega), hk', hk2, or_self, shr_eq _ hk]
    rw [exact_in (div_in ha hb.1)]

theorem refShl_loop {a k : Int} (ha : In a) (hk : 0 ≤ k ∧ k ≤ 63) (st : Sto) : ∀ (m i : Nat) (x high : Int), (i : Int) + m = k → 0 ≤ high → 0 ≤ x ∧ x < 18446744073709551616 → high * 18446744073709551616 + x = sz a * pw i →
    stencilref1_Shl.p11110100 a k (.int .u64 x) high (i : Int) st = some ⟨.ret (exact (a * pw k.toNat)), none, st⟩ := by
  intro m
  induction m with
  | zero =>
    intro i x high hi hh hx he
    rw [stencilref1_Shl.p11110100_eq]
    have : ¬ ((i : Int) < k) := by omega
    simp only [this, decide_false, cond_false]
    refine back_ret _ _ _ _ hh hx ?_ st
    have hik : k.toNat = i := by omega
    rw [he, hik]
    rcases sz_cases a with ⟨p1, p2⟩ | ⟨p1, p2⟩
    · simp only [p1, decide_true, if_true, p2, Int.neg_mul, Int.neg_neg]
    · have : ¬ a < 0 := by omega
      simp only [this, decide_false, Bool.false_eq_true, if_false, p2]
  | succ m ih =>
    intro i x high hi hh hx he
    rw [stencilref1_Shl.p11110100_eq]
    have h1 : (i : Int) < k := by omega
    have hsz := sz_bound ha
    have hp := pw_bound (n := i) (by omega)
    have hz : sz a * pw i ≤ 9223372036854775808 * 9223372036854775808 := by
      have h2 : sz a * pw i ≤ 9223372036854775808 * pw i := Int.mul_le_mul_of_nonneg_right hsz.2 (by omega)
      have h3 : 9223372036854775808 * pw i ≤ 9223372036854775808 * 9223372036854775808 := Int.mul_le_mul_of_nonneg_left hp.2 (by decide)
      omega
    have hs : shrI .u64 x 63 = x / 9223372036854775808 := by
      unfold shrI
      rw [Int.fdiv_eq_ediv_of_nonneg _ (by decide)]
      rfl
    simp only [h1, decide_true, cond_true, asI, if_true, Option.bind_some, hs]
    have hw : IntKind.wrap .u64 (IntKind.wrap .u64 (2 * high) + x / 9223372036854775808) = 2 * high + x / 9223372036854775808 := by
      rw [wu_id (x := 2 * high) (by omega), wu_id (by omega)]
    rw [hw, wi_id (x := (i : Int) + 1) (by unfold In; omega)]
    have e1 : (i : Int) + 1 = ((i + 1 : Nat) : Int) := by omega
    rw [e1]
    refine ih (i + 1) _ _ (by omega) (by omega) (by rw [wu]; omega) ?_
    rw [wu, pw_succ, Int.mul_left_comm, ← he]
    omega

theorem refShl_spec {a k : Int} (ha : In a) (st : Sto) : CallR ap 24 [.int .i64 a, .int .i64 k] st = some (.ret (shlOut a k), st) := by
  rw [stencilref1_Shl.call]
  refine ret_keep ?_ (shlOut_keep _ _ _).1 (shlOut_keep _ _ _).2 (Keeps.refl _ _)
  rw [stencilref1_Shl.b_eq]
  unfold shlOut
  by_cases h1 : k < 0
  · simp only [h1, decide_true, cond_true, stencilref1_Shl.p101_eq, true_or, if_true]
  · by_cases h2 : 63 < k
    · simp only [h1, h2, decide_true, decide_false, cond_true, cond_false, stencilref1_Shl.p101_eq, or_true, if_true]
    · have hsz := sz_bound ha
      simp only [h1, h2, decide_false, cond_false, stencilref1_Shl.p101_eq, or_self, if_false, refSize_spec ha, Option.bind_some, Out.on]
      exact refShl_loop ha (by omega) st k.toNat 0 (sz a) 0 (by omega) (by omega) (by omega) (by unfold pw; simp)

theorem refShr_spec {a k : Int} (ha : In a) (st : Sto) : CallR ap 25 [.int .i64 a, .int .i64 k] st = some (.ret (shrOut a k), st) := by
  rw [stencilref1_Shr.call]
  refine ret_keep ?_ (shrOut_keep _ _ _).1 (shrOut_keep _ _ _).2 (Keeps.refl _ _)
  rw [stencilref1_Shr.b_eq]
  unfold shrOut
  by_cases h1 : k < 0
  · simp only [h1, decide_true, cond_true, stencilref1_Shr.p101_eq, true_or, if_true]
  · by_cases h2 : 63 < k
    · simp only [h1, h2, decide_true, decide_false, cond_true, cond_false, stencilref1_Shr.p101_eq, or_true, if_true]
    · have hsz := sz_bound ha
      have hp := pw_bound (n := k.toNat) (by omega)
      have hby : shlI .u64 1 k = pw k.toNat := by
        unfold shlI
        rw [show min k.toNat IntKind.u64.bits = k.toNat by show min k.toNat 64 = k.toNat; omega, pw_eq, Int.one_mul, wu_id (by omega)]
      have hne : ¬ pw k.toNat = 0 := by omega
      simp only [h1, h2, decide_false, cond_false, stencilref1_Shr.p101_eq, or_self, if_false, refSize_spec ha, Option.bind_some, Out.on, asI, if_true, hby, hne]
      generalize pw k.toNat = p at *
      by_cases h3 : 0 ≤ a
      · have e : sz a = a := by rcases sz_cases a with ⟨p1, p2⟩ | ⟨p1, p2⟩ <;> omega
        have hd := div_in ha hp.1
        have hd0 : 0 ≤ a / p := Int.ediv_nonneg h3 (by omega)
        simp only [h3, decide_true, cond_true, e]
        rw [Int.tdiv_eq_ediv_of_nonneg h3]
        unfold In at hd
        rw [wu_id (by omega)]
        refine back_ret _ _ _ _ (by omega) (by omega) ?_ st
        simp
      · have e : sz a = -a := by rcases sz_cases a with ⟨p1, p2⟩ | ⟨p1, p2⟩ <;> omega
        have hw : IntKind.wrap .u64 (IntKind.wrap .u64 (sz a + p) - 1) = sz a + p - 1 := by rw [wu, wu]; omega
        simp only [h3, decide_false, cond_false, hw]
        rw [Int.tdiv_eq_ediv_of_nonneg (by omega)]
        have h4 : (sz a + p - 1) / p * p ≤ sz a + p - 1 := Int.ediv_mul_le _ (by omega)
        have h5 : sz a + p - 1 < ((sz a + p - 1) / p + 1) * p := Int.lt_ediv_add_one_mul_self _ (by omega)
        have h6 : 0 ≤ (sz a + p - 1) / p := Int.ediv_nonneg (by omega) (by omega)
        have h7 : (sz a + p - 1) / p * 1 ≤ (sz a + p - 1) / p * p := Int.mul_le_mul_of_nonneg_left (by omega) h6
        rw [Int.add_mul, Int.one_mul] at h5
        generalize (sz a + p - 1) / p = q at *
        rw [wu_id (by omega)]
        refine back_ret _ _ _ _ (by omega) (by omega) ?_ st
        simp only [if_true]
        have h8 : -q ≤ a / p := by rw [Int.le_ediv_iff_mul_le (by omega), Int.neg_mul]; omega
        have h9 : a / p < -q + 1 := by rw [Int.ediv_lt_iff_lt_mul (by omega), Int.add_mul, Int.neg_mul, Int.one_mul]; omega
        omega

theorem shifts {a k : Int} (ha : In a) : CallR ap 6 [.int .i64 a, .int .i64 k] [] = some (.ret (.bool true), []) := by
  rw [stencillaw1_WholeShifts.call]
  refine ret_keep ?_ rfl rfl (Keeps.refl _ _)
  rw [stencillaw1_WholeShifts.b_eq]
  by_cases h : k < 0 ∨ 63 < k
  · simp only [shl_spec ha, refShl_spec ha, shr_spec ha, refShr_spec ha, shlOut, shrOut, h, if_true, Option.bind_some, Out.on, ext, List.getElem?_cons_zero, List.getElem?_cons_succ, fine_spec, decide_true, Bool.and_self, asB, Bool.not_true, cond_false, awake_spec, stencillaw1_WholeShifts.p1111101_eq, asI,
      show decide ((102 : Int) = 0) = false from rfl, Bool.not_false, cond_true]
  · have hp := pw_bound (n := k.toNat) (by omega)
    simp only [shl_spec ha, refShl_spec ha, shr_spec ha, refShr_spec ha, shlOut, shrOut, h, if_false, exact, Option.bind_some, Out.on, ext, List.getElem?_cons_zero, List.getElem?_cons_succ, fine_spec, decide_true, Bool.and_self, asB, Bool.not_true, cond_false, awake_spec, stencillaw1_WholeShifts.p1111101_eq, asI, if_true]
    by_cases hi : In (a * pw k.toNat)
    · have e : a * pw k.toNat / pw k.toNat = a := Int.mul_ediv_cancel _ (by omega)
      simp only [exa_in hi, decide_true, Bool.not_true, cond_false, shr_spec hi, shrOut, h, if_false, e, exact_in ha, Option.bind_some, Out.on, ext, List.getElem?_cons_zero, List.getElem?_cons_succ, fine_spec, Bool.and_self]
    · simp only [exa_out hi, show decide ((100 : Int) = 0) = false from rfl, Bool.not_false, cond_true]

/-! ### Fewer bits -/
def toV (bits : Int) (s : Bool) (a : Int) : Int := if bits = 8 then (if s then IntKind.wrap .i8 a else IntKind.wrap .u8 a) else if bits = 16 then (if s then IntKind.wrap .i16 a else IntKind.wrap .u16 a) else (if s then IntKind.wrap .i32 a else IntKind.wrap .u32 a)
def toOut (a bits : Int) (s : Bool) : AV := if bits = 8 ∨ bits = 16 ∨ bits = 32 then .tup [.int .i64 (toV bits s a), .int .i64 0] else .tup [.int .i64 0, .int .i64 103]
theorem toOut_keep (a k : Int) (s : Bool) (n : Nat) : (toOut a k s).strip n = toOut a k s ∧ (toOut a k s).old n = true := by unfold toOut; split <;> exact ⟨rfl, rfl⟩

theorem w8 (x : Int) : IntKind.wrap .i8 x = if x % 256 ≥ 128 then x % 256 - 256 else x % 256 := by simp [IntKind.wrap, IntKind.bits, IntKind.signed]
theorem w16 (x : Int) : IntKind.wrap .i16 x = if x % 65536 ≥ 32768 then x % 65536 - 65536 else x % 65536 := by simp [IntKind.wrap, IntKind.bits, IntKind.signed]
theorem w32 (x : Int) : IntKind.wrap .i32 x = if x % 4294967296 ≥ 2147483648 then x % 4294967296 - 4294967296 else x % 4294967296 := by simp [IntKind.wrap, IntKind.bits, IntKind.signed]
theorem u8 (x : Int) : IntKind.wrap .u8 x = x % 256 := by simp [IntKind.wrap, IntKind.bits, IntKind.signed]
theorem u16 (x : Int) : IntKind.wrap .u16 x = x % 65536 := by simp [IntKind.wrap, IntKind.bits, IntKind.signed]
theorem u32 (x : Int) : IntKind.wrap .u32 x = x % 4294967296 := by simp [IntKind.wrap, IntKind.bits, IntKind.signed]

theorem toV_in (bits : Int) (s : Bool) (a : Int) : In (toV bits s a) := by
  unfold toV In
  cases s <;> simp only [Bool.false_eq_true, if_false, if_true] <;> (split <;> (try split)) <;> simp only [w8, w16, w32, u8, u16, u32] <;> (try split) <;> omega

theorem to_spec (a bits : Int) (s : Bool) (st : Sto) : CallR ap 9 [.int .i64 a, .int .i64 bits, .bool s] st = some (.ret (toOut a bits s), st) := by
  rw [whole_To.call]
  refine ret_keep ?_ (toOut_keep _ _ _ _).1 (toOut_keep _ _ _ _).2 (Keeps.refl _ _)
  rw [whole_To.b_eq]
  have hin := toV_in bits s a
  unfold toOut
  by_cases h8 : bits = 8
  · subst h8
    cases s
    · rw [if_pos (by decide)]
      simp only [toV, if_true, Bool.false_eq_true, if_false] at hin ⊢
      simp only [decide_true, cond_true, whole_To.p1001_eq, cond_false, wi_id hin]
    · rw [if_pos (by decide)]
      simp only [toV, if_true] at hin ⊢
      simp only [decide_true, cond_true, whole_To.p1001_eq, wi_id hin]
  · by_cases h16 : bits = 16
    · subst h16
      cases s
      · rw [if_pos (by decide)]
        simp only [toV, if_true, Bool.false_eq_true, if_false, show ¬ (16 : Int) = 8 by decide] at hin ⊢
        simp only [show decide ((16 : Int) = 8) = false from rfl, decide_true, decide_false, cond_true, cond_false, whole_To.p1001_eq, whole_To.p10011111_eq, wi_id hin]
      · rw [if_pos (by decide)]
        simp only [toV, if_true, if_false, show ¬ (16 : Int) = 8 by decide] at hin ⊢
        simp only [show decide ((16 : Int) = 8) = false from rfl, decide_true, decide_false, cond_true, cond_false, whole_To.p1001_eq, whole_To.p10011111_eq, wi_id hin]
    · by_cases h32 : bits = 32
      · subst h32
        cases s
        · rw [if_pos (by decide)]
          simp only [toV, Bool.false_eq_true, if_false, show ¬ (32 : Int) = 8 by decide, show ¬ (32 : Int) = 16 by decide] at hin ⊢
          simp only [show decide ((32 : Int) = 8) = false from rfl, show decide ((32 : Int) = 16) = false from rfl, decide_true, decide_false, cond_true, cond_false, whole_To.p1001_eq, whole_To.p10011111_eq, whole_To.p100111111111_eq, wi_id hin]
        · rw [if_pos (by decide)]
          simp only [toV, if_true, if_false, show ¬ (32 : Int) = 8 by decide, show ¬ (32 : Int) = 16 by decide] at hin ⊢
          simp only [show decide ((32 : Int) = 8) = false from rfl, show decide ((32 : Int) = 16) = false from rfl, decide_true, decide_false, cond_true, cond_false, whole_To.p1001_eq, whole_To.p10011111_eq, whole_To.p100111111111_eq, wi_id hin]
      · rw [if_neg (by omega)]
        simp only [h8, h16, h32, decide_false, cond_false, whole_To.p1001_eq, whole_To.p10011111_eq, whole_To.p100111111111_eq]

theorem refTo_core {a : Int} (ha : In a) (s : Bool) (bits all : Int) (hb : ¬ bits < 0) (hall : shlI .u64 1 bits = all) (h1 : 256 ≤ all ∧ all ≤ 4294967296) (h2 : all % 2 = 0) (st : Sto) :
    stencilref1_To.p101 a bits s false st = some ⟨.ret (exact (if s = true ∧ a % all ≥ all / 2 then a % all - all else a % all)), none, st⟩ := by
  have hsz := sz_bound ha
  have hz : ¬ all = 0 := by omega
  have hm : Int.tmod (sz a) all = sz a % all := Int.tmod_eq_emod_of_nonneg hsz.1
  have hr : 0 ≤ sz a % all ∧ sz a % all < all := ⟨Int.emod_nonneg _ hz, Int.emod_lt_of_pos _ (by omega)⟩
  have hr2 : 0 ≤ a % all ∧ a % all < all := ⟨Int.emod_nonneg _ hz, Int.emod_lt_of_pos _ (by omega)⟩
  have fin : ∀ x : Int, x = a % all → stencilref1_To.p11111 s all x st = some ⟨.ret (exact (if s = true ∧ a % all ≥ all / 2 then a % all - all else a % all)), none, st⟩ := by
    rintro x rfl
    have hd : Int.tdiv all 2 = all / 2 := Int.tdiv_eq_ediv_of_nonneg (by omega)
    rw [stencilref1_To.p11111_eq, hd, wu_id (x := all / 2) (by omega)]
    cases s with
    | false =>
      simp only [cond_false, stencilref1_To.p1111101_eq, Bool.false_eq_true, false_and, if_false]
      exact back_ret _ _ _ _ (by omega) (by omega) (by simp) st
    | true =>
      simp only [cond_true, stencilref1_To.p1111101_eq, true_and]
      by_cases h : all / 2 ≤ a % all
      · simp only [h, decide_true, cond_true, ge_iff_le, if_true]
        rw [wu_id (by omega)]
        exact back_ret _ _ _ _ (by omega) (by omega) (by simp only [if_true]; omega) st
      · simp only [h, decide_false, cond_false, ge_iff_le, if_false]
        exact back_ret _ _ _ _ (by omega) (by omega) (by simp) st
  rw [stencilref1_To.p101_eq]
  simp only [cond_false, hb, if_false, refSize_spec ha, Option.bind_some, Out.on, asI, if_true, hall, hz, hm]
  rcases sz_cases a with ⟨p1, p2⟩ | ⟨p1, p2⟩
  · simp only [p1, decide_true, cond_true]
    have key : (0 < sz a % all → a % all = all - sz a % all) ∧ (¬ 0 < sz a % all → a % all = sz a % all) := by
      rw [p2] at hr ⊢
      have e1 := Int.emod_add_mul_ediv (-a) all
      constructor
      · intro h
        have : a = (all - -a % all) + all * (-1 - -a / all) := by rw [Int.mul_sub]; omega
        rw [this, Int.add_mul_emod_self_left]
        have hlt : all - -a % all < all := by omega
        have := Int.emod_eq_of_lt (a := all - -a % all) (b := all) (by omega) hlt
        rw [this]
        have e2 : (all - -a % all + all * (-1 - -a / all)) = a := by rw [Int.mul_sub]; omega
        rw [e2]
      · intro h
        have h0 : -a % all = 0 := by omega
        have : a = all * (-(-a / all)) := by rw [Int.mul_neg]; omega
        rw [h0]
        rw [this]
        exact Int.mul_emod_right _ _
    by_cases h : 0 < sz a % all
    · simp only [h, decide_true, cond_true, stencilref1_To.p111101_eq]
      rw [wu_id (by omega)]
      exact fin _ (key.1 h).symm
    · simp only [h, decide_false, cond_false, stencilref1_To.p111101_eq]
      exact fin _ (key.2 h).symm
  · have : ¬ a < 0 := by omega
    simp only [this, decide_false, cond_false, stencilref1_To.p111101_eq]
    exact fin _ (by rw [p2])

theorem refTo_spec {a : Int} (ha : In a) (bits : Int) (s : Bool) (st : Sto) : CallR ap 10 [.int .i64 a, .int .i64 bits, .bool s] st = some (.ret (toOut a bits s), st) := by
  rw [stencilref1_To.call]
  refine ret_keep ?_ (toOut_keep _ _ _ _).1 (toOut_keep _ _ _ _).2 (Keeps.refl _ _)
  rw [stencilref1_To.b_eq]
  have hin := toV_in bits s a
  unfold toOut
  by_cases h8 : bits = 8
  · subst h8
    rw [if_pos (.inl rfl)]
    simp only [decide_true, Bool.not_true, cond_false]
    rw [refTo_core ha s 8 256 (by decide) (by decide) (by decide) (by decide)]
    have e : (if s = true ∧ a % 256 ≥ 256 / 2 then a % 256 - 256 else a % 256) = toV 8 s a := by
      cases s <;> simp [toV, w8, u8]
    rw [e, exact_in hin]
  · by_cases h16 : bits = 16
    · subst h16
      rw [if_pos (.inr (.inl rfl))]
      simp only [show decide ((16 : Int) = 8) = false from rfl, decide_true, Bool.not_true, Bool.not_false, cond_true, cond_false]
      rw [refTo_core ha s 16 65536 (by decide) (by decide) (by decide) (by decide)]
      have e : (if s = true ∧ a % 65536 ≥ 65536 / 2 then a % 65536 - 65536 else a % 65536) = toV 16 s a := by
        cases s <;> simp [toV, w16, u16]
      rw [e, exact_in hin]
    · by_cases h32 : bits = 32
      · subst h32
        rw [if_pos (.inr (.inr rfl))]
        simp only [show decide ((32 : Int) = 8) = false from rfl, show decide ((32 : Int) = 16) = false from rfl, decide_true, Bool.not_true, Bool.not_false, cond_true, cond_false]
        rw [refTo_core ha s 32 4294967296 (by decide) (by decide) (by decide) (by decide)]
        have e : (if s = true ∧ a % 4294967296 ≥ 4294967296 / 2 then a % 4294967296 - 4294967296 else a % 4294967296) = toV 32 s a := by
          cases s <;> simp [toV, w32, u32]
        rw [e, exact_in hin]
      · rw [if_neg (by omega)]
        simp only [h8, h16, h32, decide_false, Bool.not_false, cond_true, stencilref1_To.p101_eq]

theorem toV_twice (bits : Int) (s t : Bool) (a : Int) : toV bits t (toV bits s a) = toV bits t a := by
  unfold toV
  cases s <;> cases t <;> simp only [Bool.false_eq_true, if_false, if_true] <;> (split <;> (try split)) <;> simp only [w8, w16, w32, u8, u16, u32] <;> (repeat' split) <;> omega

theorem turns {a : Int} (ha : In a) (bits : Int) (s : Bool) : CallR ap 3 [.int .i64 a, .int .i64 bits, .bool s] [] = some (.ret (.bool true), []) := by
  rw [stencillaw1_WholeTurns.call]
  refine ret_keep ?_ rfl rfl (Keeps.refl _ _)
  rw [stencillaw1_WholeTurns.b_eq]
  by_cases h : bits = 8 ∨ bits = 16 ∨ bits = 32
  · simp only [to_spec, refTo_spec ha, toOut, h, if_true, Option.bind_some, Out.on, ext, List.getElem?_cons_zero, List.getElem?_cons_succ, fine_spec, decide_true, Bool.and_self, asB, Bool.not_true, cond_false, awake_spec, stencillaw1_WholeTurns.p11101_eq, asI, toV_twice, guardT, gOn, cond_true, num_spec]
  · simp only [to_spec, refTo_spec ha, toOut, h, if_false, Option.bind_some, Out.on, ext, List.getElem?_cons_zero, List.getElem?_cons_succ, fine_spec, decide_true, Bool.and_self, asB, Bool.not_true, cond_false, awake_spec, stencillaw1_WholeTurns.p11101_eq, asI, if_true, show decide ((103 : Int) = 0) = false from rfl, Bool.not_false, cond_true]

end Go.Proofs.YtajeieeeigobnaaDoor
