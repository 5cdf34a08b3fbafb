/- Integers that never wrap round: products, parts, shifts, fewer bits. -/
import Derived.Test.YtajeieeeigobnaaDoorW
import Derived.Test.YtajeieeeigobnaaDoorWA
namespace Go.Proofs.YtajeieeeigobnaaDoor
open Go.St
set_option linter.unusedVariables false
set_option linter.unusedSimpArgs false

/-! ### Products -/
theorem mul_bound {a b : Int} (ha : 0 ≤ a ∧ a < 4294967296) (hb : 0 ≤ b ∧ b < 4294967296) : 0 ≤ a * b ∧ a * b ≤ 18446744065119617025 := by
  refine ⟨Int.mul_nonneg ha.1 hb.1, ?_⟩
  have h1 : a * b ≤ 4294967295 * b := Int.mul_le_mul_of_nonneg_right (by omega) hb.1
  have h2 : 4294967295 * b ≤ 4294967295 * 4294967295 := Int.mul_le_mul_of_nonneg_left (by omega) (by omega)
  omega

/-- A product of two words, by halves. -/
theorem halves {x y : Int} (hx : 0 ≤ x ∧ x < 18446744073709551616) (hy : 0 ≤ y ∧ y < 18446744073709551616) :
    (0 ≤ x % 4294967296 ∧ x % 4294967296 < 4294967296) ∧ (0 ≤ x / 4294967296 ∧ x / 4294967296 < 4294967296) ∧ (0 ≤ y % 4294967296 ∧ y % 4294967296 < 4294967296) ∧ (0 ≤ y / 4294967296 ∧ y / 4294967296 < 4294967296) ∧
    (0 ≤ x / 4294967296 * (y / 4294967296) ∧ x / 4294967296 * (y / 4294967296) ≤ 18446744065119617025) ∧ (0 ≤ x / 4294967296 * (y % 4294967296) ∧ x / 4294967296 * (y % 4294967296) ≤ 18446744065119617025) ∧
    (0 ≤ x % 4294967296 * (y / 4294967296) ∧ x % 4294967296 * (y / 4294967296) ≤ 18446744065119617025) ∧ (0 ≤ x % 4294967296 * (y % 4294967296) ∧ x % 4294967296 * (y % 4294967296) ≤ 18446744065119617025) ∧
    x * y = x / 4294967296 * (y / 4294967296) * 18446744073709551616 + (x / 4294967296 * (y % 4294967296) + x % 4294967296 * (y / 4294967296)) * 4294967296 + x % 4294967296 * (y % 4294967296) := by
  have a0 : 0 ≤ x % 4294967296 ∧ x % 4294967296 < 4294967296 := by omega
  have a1 : 0 ≤ x / 4294967296 ∧ x / 4294967296 < 4294967296 := by omega
  have b0 : 0 ≤ y % 4294967296 ∧ y % 4294967296 < 4294967296 := by omega
  have b1 : 0 ≤ y / 4294967296 ∧ y / 4294967296 < 4294967296 := by omega
  refine ⟨a0, a1, b0, b1, mul_bound a1 b1, mul_bound a1 b0, mul_bound a0 b1, mul_bound a0 b0, ?_⟩
  have ex : x = x / 4294967296 * 4294967296 + x % 4294967296 := by omega
  have ey : y = y / 4294967296 * 4294967296 + y % 4294967296 := by omega
  generalize x / 4294967296 = x1 at *
  generalize x % 4294967296 = x0 at *
  generalize y / 4294967296 = y1 at *
  generalize y % 4294967296 = y0 at *
  subst ex; subst ey
  rw [Int.add_mul, Int.mul_add, Int.mul_add, Int.add_mul]
  have e1 : x1 * 4294967296 * (y1 * 4294967296) = x1 * y1 * 18446744073709551616 := by
    rw [Int.mul_assoc, Int.mul_left_comm 4294967296 y1, ← Int.mul_assoc x1 y1]
    rfl
  have e2 : x1 * 4294967296 * y0 = x1 * y0 * 4294967296 := by rw [Int.mul_assoc, Int.mul_comm 4294967296, ← Int.mul_assoc]
  have e3 : x0 * (y1 * 4294967296) = x0 * y1 * 4294967296 := by rw [← Int.mul_assoc]
  rw [e1, e2, e3]
  omega

theorem and_low (x : Int) (hx : 0 ≤ x ∧ x < 18446744073709551616) : andI .u64 x 4294967295 = x % 4294967296 := by
  obtain ⟨n, rfl⟩ : ∃ n : Nat, x = n := ⟨x.toNat, by omega⟩
  unfold andI
  have e : (BitVec.ofInt IntKind.u64.bits (n : Int) &&& BitVec.ofInt IntKind.u64.bits 4294967295).toNat = n % 4294967296 := by
    show (BitVec.ofInt 64 (n : Int) &&& BitVec.ofInt 64 4294967295).toNat = _
    rw [BitVec.toNat_and]
    have e1 : (BitVec.ofInt 64 (n : Int)).toNat = n := by
      rw [BitVec.toNat_ofInt]
      omega
    have e2 : (BitVec.ofInt 64 4294967295).toNat = 2 ^ 32 - 1 := by decide
    rw [e1, e2, Nat.and_two_pow_sub_one_eq_mod]
  rw [e, wu_id (by omega)]
  omega
theorem shr_high (x : Int) : shrI .u64 x 32 = x / 4294967296 := by
  unfold shrI
  rw [Int.fdiv_eq_ediv_of_nonneg _ (by decide)]
  rfl

theorem mul64_spec {x y : Int} (hx : 0 ≤ x ∧ x < 18446744073709551616) (hy : 0 ≤ y ∧ y < 18446744073709551616) (st : Sto) :
    CallR ap 40 [.int .u64 x, .int .u64 y] st = some (.ret (.tup [.int .u64 (x * y / 18446744073709551616), .int .u64 (x * y % 18446744073709551616)]), st) := by
  rw [math_bits_Mul64.call]
  refine ret_keep ?_ rfl rfl (Keeps.refl _ _)
  rw [math_bits_Mul64.b_eq]
  obtain ⟨a0, a1, b0, b1, hP, hQ, hR, hS, hp⟩ := halves hx hy
  simp only [and_low _ hx, and_low _ hy, shr_high, hp]
  generalize x / 4294967296 * (y / 4294967296) = P at *
  generalize x / 4294967296 * (y % 4294967296) = Q at *
  generalize x % 4294967296 * (y / 4294967296) = R at *
  generalize x % 4294967296 * (y % 4294967296) = S at *
  rw [wu_id (x := S) (by omega), wu_id (x := Q) (by omega), wu_id (x := R) (by omega), wu_id (x := P) (by omega)]
  rw [wu_id (x := Q + S / 4294967296) (by omega)]
  rw [and_low _ (by omega)]
  rw [wu_id (x := P + (Q + S / 4294967296) / 4294967296) (by omega), wu_id (x := (Q + S / 4294967296) % 4294967296 + R) (by omega)]
  rw [wu_id (x := P + (Q + S / 4294967296) / 4294967296 + ((Q + S / 4294967296) % 4294967296 + R) / 4294967296) (by omega), wu]
  have e : P + (Q + S / 4294967296) / 4294967296 + ((Q + S / 4294967296) % 4294967296 + R) / 4294967296 = (P * 18446744073709551616 + (Q + R) * 4294967296 + S) / 18446744073709551616 := by omega
  rw [e]

theorem sz_mul (a b : Int) : a * b = if (a < 0 ↔ b < 0) then sz a * sz b else -(sz a * sz b) := by
  rcases sz_cases a with ⟨p1, p2⟩ | ⟨p1, p2⟩ <;> rcases sz_cases b with ⟨p3, p4⟩ | ⟨p3, p4⟩ <;> rw [p2, p4] <;> split <;> first | omega | simp [Int.neg_mul, Int.mul_neg]

theorem mul_nonneg' (a b : Int) : 0 ≤ sz a * sz b := Int.mul_nonneg (by unfold sz; split <;> omega) (by unfold sz; split <;> omega)

theorem eab (p q : Prop) [Decidable p] [Decidable q] : (!(decide p == decide q)) = !decide (p ↔ q) := by by_cases hp : p <;> by_cases hq : q <;> simp [hp, hq]

theorem mul_spec {a b : Int} (ha : In a) (hb : In b) (st : Sto) : CallR ap 28 [.int .i64 a, .int .i64 b] st = some (.ret (exact (a * b)), st) := by
  rw [whole_Mul.call]
  refine ret_keep ?_ rfl rfl (Keeps.refl _ _)
  rw [whole_Mul.b_eq]
  have h1 := sz_bound ha
  have h2 := sz_bound hb
  have hn := mul_nonneg' a b
  have hm := sz_mul a b
  simp only [size_spec ha, size_spec hb, Option.bind_some, Out.on, mul64_spec (x := sz a) (y := sz b) (by omega) (by omega), ext, List.getElem?_cons_zero, List.getElem?_cons_succ, eab, wu_id (x := 9223372036854775807 + 1) (by omega)]
  generalize sz a * sz b = z at *
  by_cases hs : a < 0 ↔ b < 0
  · simp only [hs, if_true] at hm
    simp only [hs, decide_true, Bool.not_true, cond_false, whole_Mul.p11111_eq, asI, if_true, Option.bind_some]
    by_cases hz : z / 18446744073709551616 = 0
    · simp only [hz, decide_true, Bool.not_true, cond_false, whole_Mul.p11111001_eq]
      by_cases hl : 9223372036854775807 < z % 18446744073709551616
      · simp only [hl, decide_true, cond_true]
        rw [exact_out (by unfold In; omega)]
      · simp only [hl, decide_false, cond_false, Go.St.asInt, Option.bind_some]
        rw [exact_in (by unfold In; omega), wi_id (by unfold In; omega), hm]
        congr 6
        omega
    · simp only [hz, decide_false, Bool.not_false, cond_true, whole_Mul.p11111001_eq]
      rw [exact_out (by unfold In; omega)]
  · simp only [hs, if_false] at hm
    simp only [hs, decide_false, Bool.not_false, cond_true, whole_Mul.p11111_eq, asI, if_true, Option.bind_some]
    by_cases hz : z / 18446744073709551616 = 0
    · simp only [hz, decide_true, Bool.not_true, cond_false, whole_Mul.p11111001_eq]
      by_cases hl : 9223372036854775807 + 1 < z % 18446744073709551616
      · simp only [hl, decide_true, cond_true]
        rw [exact_out (by unfold In; omega)]
      · simp only [hl, decide_false, cond_false, asI, if_true, Option.bind_some, cond_true]
        rw [exact_in (by unfold In; omega)]
        have : IntKind.wrap .i64 (IntKind.wrap .u64 (0 - z % 18446744073709551616)) = a * b := by rw [wu, wi]; split <;> omega
        rw [this]
    · simp only [hz, decide_false, Bool.not_false, cond_true, whole_Mul.p11111001_eq]
      rw [exact_out (by unfold In; omega)]

theorem refMul_spec {a b : Int} (ha : In a) (hb : In b) (st : Sto) : CallR ap 32 [.int .i64 a, .int .i64 b] st = some (.ret (exact (a * b)), st) := by
  rw [stencilref1_Mul.call]
  refine ret_keep ?_ rfl rfl (Keeps.refl _ _)
  rw [stencilref1_Mul.b_eq]
  have h1 := sz_bound ha
  have h2 := sz_bound hb
  have hm := sz_mul a b
  have td : ∀ x : Int, 0 ≤ x → Int.tdiv x 4294967296 = x / 4294967296 := fun x hx => Int.tdiv_eq_ediv_of_nonneg hx
  have tm : ∀ x : Int, 0 ≤ x → Int.tmod x 4294967296 = x % 4294967296 := fun x hx => Int.tmod_eq_emod_of_nonneg hx
  simp only [refSize_spec ha, refSize_spec hb, Option.bind_some, Out.on, asI, if_true, eab]
  obtain ⟨a0, a1, b0, b1, hP, hQ, hR, hS, hp⟩ := halves (x := sz a) (y := sz b) (by omega) (by omega)
  rw [td (sz a) h1.1, td (sz b) h2.1, tm (sz a) h1.1, tm (sz b) h2.1, wu_id (x := sz a / 4294967296) (by omega), wu_id (x := sz b / 4294967296) (by omega)]
  generalize sz a * sz b = z at *
  generalize sz a / 4294967296 * (sz b / 4294967296) = P at *
  generalize sz a / 4294967296 * (sz b % 4294967296) = Q at *
  generalize sz a % 4294967296 * (sz b / 4294967296) = R at *
  generalize sz a % 4294967296 * (sz b % 4294967296) = S at *
  rw [wu_id (x := S) (by omega), wu_id (x := Q) (by omega), wu_id (x := R) (by omega), wu_id (x := P) (by omega)]
  rw [td S (by omega), tm S (by omega), wu_id (x := S / 4294967296) (by omega), wu_id (x := Q + S / 4294967296) (by omega)]
  rw [td (Q + S / 4294967296) (by omega), tm (Q + S / 4294967296) (by omega), wu_id (x := (Q + S / 4294967296) / 4294967296) (by omega)]
  rw [wu_id (x := R + (Q + S / 4294967296) % 4294967296) (by omega), td (R + (Q + S / 4294967296) % 4294967296) (by omega), tm (R + (Q + S / 4294967296) % 4294967296) (by omega)]
  rw [wu_id (x := (R + (Q + S / 4294967296) % 4294967296) / 4294967296) (by omega), wu_id (x := P + (Q + S / 4294967296) / 4294967296) (by omega)]
  rw [wu_id (x := P + (Q + S / 4294967296) / 4294967296 + (R + (Q + S / 4294967296) % 4294967296) / 4294967296) (by omega)]
  rw [wu_id (x := (R + (Q + S / 4294967296) % 4294967296) % 4294967296 * 4294967296) (by omega), wu_id (x := (R + (Q + S / 4294967296) % 4294967296) % 4294967296 * 4294967296 + S % 4294967296) (by omega)]
  refine back_ret _ _ _ _ (by omega) (by omega) ?_ st
  by_cases hs : a < 0 ↔ b < 0
  · simp only [hs, if_true, decide_true, Bool.not_true, Bool.false_eq_true, if_false] at hm ⊢
    omega
  · simp only [hs, if_false, decide_false, Bool.not_false, if_true] at hm ⊢
    omega

/-! ### Parts -/
theorem sz_tdiv (a b : Int) : a.tdiv b = if (a < 0 ↔ b < 0) then (sz a).tdiv (sz b) else -((sz a).tdiv (sz b)) := by
  rcases sz_cases a with ⟨p1, p2⟩ | ⟨p1, p2⟩ <;> rcases sz_cases b with ⟨p3, p4⟩ | ⟨p3, p4⟩ <;> rw [p2, p4] <;> split <;> first | omega | simp [Int.neg_tdiv, Int.tdiv_neg]
theorem sz_tmod (a b : Int) : a.tmod b = if a < 0 then -((sz a).tmod (sz b)) else (sz a).tmod (sz b) := by
  rcases sz_cases a with ⟨p1, p2⟩ | ⟨p1, p2⟩ <;> rcases sz_cases b with ⟨p3, p4⟩ | ⟨p3, p4⟩ <;> rw [p2, p4] <;> split <;> first | omega | simp [Int.neg_tmod, Int.tmod_neg]

noncomputable def divOut (a b : Int) : AV := if b = 0 then .tup [.int .i64 0, .int .i64 101] else exact (a.tdiv b)
noncomputable def modOut (a b : Int) : AV := if b = 0 then .tup [.int .i64 0, .int .i64 101] else exact (a.tmod b)

theorem q_bound {a b : Int} (ha : In a) (hb : b ≠ 0) : 0 ≤ (sz a).tdiv (sz b) ∧ (sz a).tdiv (sz b) ≤ sz a ∧ (sz b ≠ 1 → (sz a).tdiv (sz b) * 2 ≤ sz a) ∧ (sz b = 1 → (sz a).tdiv (sz b) = sz a) := by
  have h1 := sz_bound ha
  have hb' : 0 < sz b := by rcases sz_cases b with ⟨p3, p4⟩ | ⟨p3, p4⟩ <;> omega
  rw [Int.tdiv_eq_ediv_of_nonneg h1.1]
  have h2 := Int.ediv_nonneg h1.1 (Int.le_of_lt hb')
  have h3 : sz a / sz b * sz b ≤ sz a := Int.ediv_mul_le _ (by omega)
  have h4 : sz a / sz b * 1 ≤ sz a / sz b * sz b := Int.mul_le_mul_of_nonneg_left (by omega) h2
  refine ⟨h2, by omega, fun h => ?_, fun h => by rw [h, Int.ediv_one]⟩
  have h5 : sz a / sz b * 2 ≤ sz a / sz b * sz b := Int.mul_le_mul_of_nonneg_left (by omega) h2
  omega
theorem r_bound {a b : Int} (ha : In a) (hb : b ≠ 0) : 0 ≤ (sz a).tmod (sz b) ∧ (sz a).tmod (sz b) ≤ sz a ∧ ((sz a).tmod (sz b) < sz b) := by
  have h1 := sz_bound ha
  have hb' : 0 < sz b := by rcases sz_cases b with ⟨p3, p4⟩ | ⟨p3, p4⟩ <;> omega
  rw [Int.tmod_eq_emod_of_nonneg h1.1]
  have h2 := Int.emod_nonneg (sz a) (by omega : sz b ≠ 0)
  have h3 := Int.emod_lt_of_pos (sz a) hb'
  have h4 := Int.emod_add_mul_ediv (sz a) (sz b)
  have h5 := Int.mul_nonneg (Int.le_of_lt hb') (Int.ediv_nonneg h1.1 (Int.le_of_lt hb'))
  exact ⟨h2, by omega, h3⟩

theorem div_spec {a b : Int} (ha : In a) (hb : In b) (st : Sto) : CallR ap 18 [.int .i64 a, .int .i64 b] st = some (.ret (divOut a b), st) := by
  rw [whole_Div.call]
  refine ret_keep ?_ (by unfold divOut; split <;> rfl) (by unfold divOut; split <;> rfl) (Keeps.refl _ _)
  rw [whole_Div.b_eq]
  unfold divOut
  by_cases h0 : b = 0
  · simp only [h0, decide_true, cond_true, if_true]
  · simp only [h0, decide_false, cond_false, if_false]
    by_cases h1 : b = -1
    · simp only [h1, decide_true, cond_true, neg_spec ha, Option.bind_some, Out.on]
      rw [show a.tdiv (-1) = -a by rw [Int.tdiv_neg, Int.tdiv_one]]
      rfl
    · simp only [h1, decide_false, cond_false]
      have hq := q_bound ha h0
      have hs := sz_bound ha
      have : In (a.tdiv b) := by
        rw [sz_tdiv a b]
        unfold In at ha ⊢
        by_cases hz : sz b = 1
        · have hb1 : b = 1 := by rcases sz_cases b with ⟨p3, p4⟩ | ⟨p3, p4⟩ <;> omega
          have e := hq.2.2.2 hz
          rcases sz_cases a with ⟨p1, p2⟩ | ⟨p1, p2⟩ <;> split <;> omega
        · have e := hq.2.2.1 hz
          split <;> omega
      rw [exact_in this, wi_id this]
theorem refDiv_spec {a b : Int} (ha : In a) (hb : In b) (st : Sto) : CallR ap 20 [.int .i64 a, .int .i64 b] st = some (.ret (divOut a b), st) := by
  rw [stencilref1_Div.call]
  refine ret_keep ?_ (by unfold divOut; split <;> rfl) (by unfold divOut; split <;> rfl) (Keeps.refl _ _)
  rw [stencilref1_Div.b_eq]
  unfold divOut
  by_cases h0 : b = 0
  · simp only [h0, decide_true, cond_true, if_true]
  · have hq := q_bound ha h0
    have hs := sz_bound ha
    have hz : ¬ sz b = 0 := by rcases sz_cases b with ⟨p3, p4⟩ | ⟨p3, p4⟩ <;> omega
    simp only [h0, decide_false, cond_false, if_false, refSize_spec ha, refSize_spec hb, Option.bind_some, Out.on, asI, if_true, eab, hz]
    rw [wu_id (by omega)]
    refine back_ret _ _ _ _ (by omega) (by omega) ?_ st
    rw [sz_tdiv a b]
    by_cases h : a < 0 ↔ b < 0
    · simp only [h, decide_true, Bool.not_true, Bool.false_eq_true, if_false, if_true]; omega
    · simp only [h, decide_false, Bool.not_false, if_true, if_false]; omega
theorem mod_in {a b : Int} (ha : In a) (h0 : b ≠ 0) : In (a.tmod b) := by
  have hq := r_bound ha h0
  have hs := sz_bound ha
  rw [sz_tmod a b]
  unfold In at ha ⊢
  rcases sz_cases a with ⟨p1, p2⟩ | ⟨p1, p2⟩ <;> split <;> omega
theorem mod_spec {a b : Int} (ha : In a) (hb : In b) (st : Sto) : CallR ap 19 [.int .i64 a, .int .i64 b] st = some (.ret (modOut a b), st) := by
  rw [whole_Mod.call]
  refine ret_keep ?_ (by unfold modOut; split <;> rfl) (by unfold modOut; split <;> rfl) (Keeps.refl _ _)
  rw [whole_Mod.b_eq]
  unfold modOut
  by_cases h0 : b = 0
  · simp only [h0, decide_true, cond_true, if_true]
  · simp only [h0, decide_false, cond_false, if_false]
    rw [exact_in (mod_in ha h0)]
theorem refMod_spec {a b : Int} (ha : In a) (hb : In b) (st : Sto) : CallR ap 21 [.int .i64 a, .int .i64 b] st = some (.ret (modOut a b), st) := by
  rw [stencilref1_Mod.call]
  refine ret_keep ?_ (by unfold modOut; split <;> rfl) (by unfold modOut; split <;> rfl) (Keeps.refl _ _)
  rw [stencilref1_Mod.b_eq]
  unfold modOut
  by_cases h0 : b = 0
  · simp only [h0, decide_true, cond_true, if_true]
  · have hq := r_bound ha h0
    have hs := sz_bound ha
    have hz : ¬ sz b = 0 := by rcases sz_cases b with ⟨p3, p4⟩ | ⟨p3, p4⟩ <;> omega
    simp only [h0, decide_false, cond_false, if_false, refSize_spec ha, refSize_spec hb, Option.bind_some, Out.on, asI, if_true, hz]
    refine back_ret _ _ _ _ (by omega) (by omega) ?_ st
    rw [sz_tmod a b]
    by_cases h : a < 0
    · simp only [h, decide_true, if_true]; omega
    · simp only [h, decide_false, Bool.false_eq_true, if_false]; omega

/-! ### What the laws ask -/
theorem num_spec (a : Int) (st : Sto) : CallR ap 13 [.int .i64 a] st = some (.ret (.int .i64 a), st) := by
  rw [stencillaw0_Num.call]
  exact ret_keep (stencillaw0_Num.b_eq a st) rfl rfl (Keeps.refl _ _)
theorem fine_spec (a b c d : Int) (st : Sto) : CallR ap 11 [.int .i64 a, .int .i64 b, .int .i64 c, .int .i64 d] st = some (.ret (.bool (decide (a = c) && decide (b = d))), st) := by
  rw [stencillaw1_fine.call]
  refine ret_keep ?_ rfl rfl (Keeps.refl _ _)
  rw [stencillaw1_fine.b_eq]
  by_cases h : a = c
  · simp only [h, decide_true, cond_true, num_spec, Option.bind_some, Out.on, asI, if_true, Bool.true_and]
  · simp only [h, decide_false, cond_false, Bool.false_and]

theorem sums {a b : Int} (ha : In a) (hb : In b) : CallR ap 7 [.int .i64 a, .int .i64 b] [] = some (.ret (.bool true), []) := by
  rw [stencillaw1_WholeSums.call]
  refine ret_keep ?_ rfl rfl (Keeps.refl _ _)
  rw [stencillaw1_WholeSums.b_eq]
  simp only [add_spec ha hb, refAdd_spec ha hb, sub_spec ha hb, refSub_spec ha hb, mul_spec ha hb, refMul_spec ha hb, neg_spec ha, refNeg_spec ha, exact, Option.bind_some, Out.on, ext, List.getElem?_cons_zero, List.getElem?_cons_succ, fine_spec, decide_true, Bool.and_self, guardT, gOn, cond_true, asB, awake_spec]

theorem parts {a b : Int} (ha : In a) (hb : In b) : CallR ap 5 [.int .i64 a, .int .i64 b] [] = some (.ret (.bool true), []) := by
  rw [stencillaw1_WholeParts.call]
  refine ret_keep ?_ rfl rfl (Keeps.refl _ _)
  rw [stencillaw1_WholeParts.b_eq]
  by_cases h0 : b = 0
  · subst h0
    simp only [div_spec ha hb, refDiv_spec ha hb, mod_spec ha hb, refMod_spec ha hb, divOut, modOut, if_true, Option.bind_some, Out.on, ext, List.getElem?_cons_zero, List.getElem?_cons_succ, fine_spec, decide_true, Bool.and_self, asB, Bool.not_true, cond_false, awake_spec, stencillaw1_WholeParts.p1111101_eq, asI, show decide ((101 : Int) = 0) = false from rfl, Bool.not_false, cond_true]
  · have hm := mod_in ha h0
    simp only [div_spec ha hb, refDiv_spec ha hb, mod_spec ha hb, refMod_spec ha hb, divOut, modOut, h0, if_false, exact, Option.bind_some, Out.on, ext, List.getElem?_cons_zero, List.getElem?_cons_succ, fine_spec, decide_true, Bool.and_self, asB, Bool.not_true, cond_false, awake_spec, stencillaw1_WholeParts.p1111101_eq, asI, if_true]
    by_cases hd : In (a.tdiv b)
    · rw [exa_in hd, exa_in hm]
      have e : b * a.tdiv b + a.tmod b = a := Int.mul_tdiv_add_tmod a b
      have hw : IntKind.wrap .i64 (IntKind.wrap .i64 (a.tdiv b * b) + a.tmod b) = a := by
        rw [Int.mul_comm] at e
        unfold In at ha
        rw [wi, wi]
        split <;> split <;> omega
      simp only [decide_true, Bool.not_true, cond_false, hw, cond_true]
      by_cases hz : a.tmod b = 0
      · simp only [hz, decide_true, cond_true]
      · simp only [hz, decide_false, cond_false]
        have hr := r_bound ha h0
        have he := sz_tmod a b
        have : decide (a.tmod b < 0) = decide (a < 0) := by
          by_cases h : a < 0
          · simp only [h, if_true] at he
            simp only [h, decide_true, decide_eq_true_eq]
            omega
          · simp only [h, if_false] at he
            simp only [h, decide_false, decide_eq_false_iff_not]
            omega
        rw [this]
        simp
    · rw [exa_out hd]
      simp only [show decide ((100 : Int) = 0) = false from rfl, Bool.not_false, cond_true]

theorem laws {a b : Int} (ha : In a) (hb : In b) : CallR ap 8 [.int .i64 a, .int .i64 b] [] = some (.ret (.bool true), []) := by
  rw [stencillaw1_WholeLaws.call]
  refine ret_keep ?_ rfl rfl (Keeps.refl _ _)
  rw [stencillaw1_WholeLaws.b_eq]
  have tail : stencillaw1_WholeLaws.p11111111 a b (.int .i64 (exa (a * b)).1) (.int .i64 (exa (a * b)).2) [] = some ⟨.ret (.bool true), none, []⟩ := by
    rw [stencillaw1_WholeLaws.p11111111_eq]
    by_cases hm : In (a * b)
    · rw [exa_in hm]
      simp only [asI, if_true, Option.bind_some, decide_true, Bool.not_true, cond_false, stencillaw1_WholeLaws.p1111111101_eq]
      by_cases h0 : b = 0
      · simp only [h0, decide_true, cond_true]
      · have e1 : (a * b).tdiv b = a := Int.mul_tdiv_cancel a h0
        have e2 : (a * b).tmod b = 0 := Int.mul_tmod_left a b
        simp only [h0, decide_false, cond_false, div_spec hm hb, mod_spec hm hb, divOut, modOut, if_false, e1, e2, exact_in ha, exact_in (show In 0 by unfold In; omega), Option.bind_some, Out.on, ext, List.getElem?_cons_zero, List.getElem?_cons_succ, fine_spec, decide_true, Bool.and_self, guardT, gOn, cond_true, asB]
    · rw [exa_out hm]
      simp only [asI, if_true, Option.bind_some, show decide ((100 : Int) = 0) = false from rfl, Bool.not_false, cond_true, stencillaw1_WholeLaws.p1111111101_eq]
  simp only [awake_spec, add_spec ha hb, add_spec hb ha, mul_spec ha hb, mul_spec hb ha, Int.add_comm b a, Int.mul_comm b a, exact, Option.bind_some, Out.on, ext, List.getElem?_cons_zero, List.getElem?_cons_succ, asB, Bool.not_true, cond_false, asI, if_true, decide_true, stencillaw1_WholeLaws.p11111101_eq]
  by_cases hs : In (a + b)
  · rw [exa_in hs]
    have e : a + b - b = a := by omega
    simp only [decide_true, cond_true, sub_spec hs hb, e, exact_in ha, Option.bind_some, Out.on, ext, List.getElem?_cons_zero, List.getElem?_cons_succ, fine_spec, decide_true, Bool.and_self, asB, Bool.not_true, cond_false]
    exact tail
  · rw [exa_out hs]
    simp only [show decide ((100 : Int) = 0) = false from rfl, cond_false]
    exact tail

end Go.Proofs.YtajeieeeigobnaaDoor
