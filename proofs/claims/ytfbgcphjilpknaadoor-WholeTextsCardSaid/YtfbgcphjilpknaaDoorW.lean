/- Integers that never wrap round: what the functions answer on the machine. -/
import Derived.Test.YtfbgcphjilpknaaDoorE
import Derived.Test.YtfbgcphjilpknaaDoorStS20
namespace Go.Proofs.YtfbgcphjilpknaaDoor
open Go.St
set_option linter.unusedVariables false
set_option linter.unusedSimpArgs false

theorem ret_keep {b : Option Res} {v : AV} {st st' : Sto} (h : b = some ⟨.ret v, none, st'⟩) (hs : v.strip st.length = v) (ho : v.old st.length = true) (hk : Keeps st.length st st') :
    (b.bind fun r => some (gc st (r.out, r.st))) = some (.ret v, st) := by
  rw [h]
  simp only [Option.bind_some]
  rw [gc_keep hs ho hk]

/-- A number of 64 bits. -/
def In (a : Int) : Prop := -9223372036854775808 ≤ a ∧ a < 9223372036854775808

theorem wi (x : Int) : IntKind.wrap .i64 x = if x % 18446744073709551616 ≥ 9223372036854775808 then x % 18446744073709551616 - 18446744073709551616 else x % 18446744073709551616 := by simp [IntKind.wrap, IntKind.bits, IntKind.signed]
theorem wu (x : Int) : IntKind.wrap .u64 x = x % 18446744073709551616 := by simp [IntKind.wrap, IntKind.bits, IntKind.signed]
theorem wi_id {x : Int} (h : In x) : IntKind.wrap .i64 x = x := by unfold In at h; rw [wi]; split <;> omega
theorem wu_id {x : Int} (h : 0 ≤ x ∧ x < 18446744073709551616) : IntKind.wrap .u64 x = x := by rw [wu]; omega

/-! ### Signs -/
theorem wrap_toInt (v : BitVec 64) : IntKind.wrap .i64 (v.toNat : Int) = v.toInt := by
  have := v.isLt
  rw [wi, BitVec.toInt_eq_toNat_cond]
  split <;> split <;> omega
theorem toInt_of {x : Int} (h : In x) : (BitVec.ofInt 64 x).toInt = x := by
  unfold In at h
  rw [BitVec.toInt_ofInt]
  exact Int.bmod_eq_of_le (by omega) (by omega)
theorem msb_of {x : Int} (h : In x) : (BitVec.ofInt 64 x).msb = decide (x < 0) := by rw [BitVec.msb_eq_toInt, toInt_of h]
theorem toInt_in (v : BitVec 64) : In v.toInt := by
  have h1 := BitVec.le_toInt v
  have h2 := BitVec.toInt_lt (x := v)
  unfold In
  omega
theorem xor_neg {x y : Int} (hx : In x) (hy : In y) : In (xorI .i64 x y) ∧ decide (xorI .i64 x y < 0) = ((decide (x < 0)) ^^ (decide (y < 0))) := by
  have e : xorI .i64 x y = (BitVec.ofInt 64 x ^^^ BitVec.ofInt 64 y).toInt := wrap_toInt _
  rw [e]
  refine ⟨toInt_in _, ?_⟩
  rw [← BitVec.msb_eq_toInt, BitVec.msb_xor, msb_of hx, msb_of hy]
theorem and_neg {x y : Int} (hx : In x) (hy : In y) : decide (andI .i64 x y < 0) = (decide (x < 0) && decide (y < 0)) := by
  have e : andI .i64 x y = (BitVec.ofInt 64 x &&& BitVec.ofInt 64 y).toInt := wrap_toInt _
  rw [e, ← BitVec.msb_eq_toInt, BitVec.msb_and, msb_of hx, msb_of hy]

/-! ### Exact answers -/
open Classical in
noncomputable def exa (z : Int) : Int × Int := if In z then (z, 0) else (0, 100)
noncomputable def exact (z : Int) : AV := .tup [.int .i64 (exa z).1, .int .i64 (exa z).2]
theorem exa_in {z : Int} (h : In z) : exa z = (z, 0) := by unfold exa; rw [if_pos h]
theorem exa_out {z : Int} (h : ¬ In z) : exa z = (0, 100) := by unfold exa; rw [if_neg h]
theorem exact_in {z : Int} (h : In z) : exact z = .tup [.int .i64 z, .int .i64 0] := by unfold exact; rw [exa_in h]
theorem exact_out {z : Int} (h : ¬ In z) : exact z = .tup [.int .i64 0, .int .i64 100] := by unfold exact; rw [exa_out h]
theorem tup2_keep (a b : Int) (n : Nat) : (AV.tup [.int .i64 a, .int .i64 b]).strip n = .tup [.int .i64 a, .int .i64 b] ∧ (AV.tup [.int .i64 a, .int .i64 b]).old n = true := ⟨rfl, rfl⟩

theorem wrap_in (x : Int) : In (IntKind.wrap .i64 x) := by unfold In; rw [wi]; split <;> omega

theorem add_spec {a b : Int} (ha : In a) (hb : In b) (st : Sto) : CallR ap 26 [.int .i64 a, .int .i64 b] st = some (.ret (exact (a + b)), st) := by
  rw [whole_Add.call]
  refine ret_keep ?_ rfl rfl (Keeps.refl _ _)
  rw [whole_Add.b_eq]
  have hs := wrap_in (a + b)
  have hx := xor_neg hs ha
  have hy := xor_neg hs hb
  rw [and_neg hx.1 hy.1, hx.2, hy.2]
  unfold In at ha hb hs
  by_cases h : In (a + b)
  · rw [exact_in h, wi_id h]
    unfold In at h
    have : ((decide (a + b < 0) ^^ decide (a < 0)) && (decide (a + b < 0) ^^ decide (b < 0))) = false := by
      by_cases h1 : a + b < 0 <;> by_cases h2 : a < 0 <;> by_cases h3 : b < 0 <;> simp [h1, h2, h3] <;> omega
    rw [this]
    rfl
  · rw [exact_out h]
    unfold In at h
    have hw : IntKind.wrap .i64 (a + b) = a + b - 18446744073709551616 ∨ IntKind.wrap .i64 (a + b) = a + b + 18446744073709551616 := by rw [wi]; split <;> omega
    have : ((decide (IntKind.wrap .i64 (a + b) < 0) ^^ decide (a < 0)) && (decide (IntKind.wrap .i64 (a + b) < 0) ^^ decide (b < 0))) = true := by
      by_cases h1 : IntKind.wrap .i64 (a + b) < 0 <;> by_cases h2 : a < 0 <;> by_cases h3 : b < 0 <;> simp [h1, h2, h3] <;> omega
    rw [this]
    rfl

theorem sub_spec {a b : Int} (ha : In a) (hb : In b) (st : Sto) : CallR ap 27 [.int .i64 a, .int .i64 b] st = some (.ret (exact (a - b)), st) := by
  rw [whole_Sub.call]
  refine ret_keep ?_ rfl rfl (Keeps.refl _ _)
  rw [whole_Sub.b_eq]
  have hs := wrap_in (a - b)
  have hx := xor_neg ha hb
  have hy := xor_neg hs ha
  rw [and_neg hx.1 hy.1, hx.2, hy.2]
  unfold In at ha hb hs
  by_cases h : In (a - b)
  · rw [exact_in h, wi_id h]
    unfold In at h
    have : ((decide (a < 0) ^^ decide (b < 0)) && (decide (a - b < 0) ^^ decide (a < 0))) = false := by
      by_cases h1 : a - b < 0 <;> by_cases h2 : a < 0 <;> by_cases h3 : b < 0 <;> simp [h1, h2, h3] <;> omega
    rw [this]
    rfl
  · rw [exact_out h]
    unfold In at h
    have hw : IntKind.wrap .i64 (a - b) = a - b - 18446744073709551616 ∨ IntKind.wrap .i64 (a - b) = a - b + 18446744073709551616 := by rw [wi]; split <;> omega
    have : ((decide (a < 0) ^^ decide (b < 0)) && (decide (IntKind.wrap .i64 (a - b) < 0) ^^ decide (a < 0))) = true := by
      by_cases h1 : IntKind.wrap .i64 (a - b) < 0 <;> by_cases h2 : a < 0 <;> by_cases h3 : b < 0 <;> simp [h1, h2, h3] <;> omega
    rw [this]
    rfl

theorem neg_spec {a : Int} (ha : In a) (st : Sto) : CallR ap 29 [.int .i64 a] st = some (.ret (exact (-a)), st) := by
  rw [whole_Neg.call]
  refine ret_keep ?_ rfl rfl (Keeps.refl _ _)
  rw [whole_Neg.b_eq]
  unfold In at ha
  by_cases h : a = -9223372036854775808
  · rw [exact_out (by unfold In; omega)]
    simp only [h, decide_true, cond_true]
  · rw [exact_in (by unfold In; omega), wi_id (by unfold In; omega)]
    simp only [h, decide_false, cond_false, Int.zero_sub]

/-! ### The document's own -/
def sz (a : Int) : Int := if a < 0 then -a else a
theorem sz_cases (a : Int) : (a < 0 ∧ sz a = -a) ∨ (0 ≤ a ∧ sz a = a) := by unfold sz; split <;> omega
theorem sz_bound {a : Int} (h : In a) : 0 ≤ sz a ∧ sz a ≤ 9223372036854775808 := by unfold In at h; unfold sz; split <;> omega
theorem refSize_spec {a : Int} (ha : In a) (st : Sto) : CallR ap 34 [.int .i64 a] st = some (.ret (.int .u64 (sz a)), st) := by
  rw [stencilref1_size.call]
  refine ret_keep ?_ rfl rfl (Keeps.refl _ _)
  rw [stencilref1_size.b_eq]
  unfold In at ha
  unfold sz
  by_cases h : a < 0
  · simp only [h, decide_true, cond_true, if_true]
    rw [wi_id (x := a + 1) (by unfold In; omega), wi_id (x := 0 - (a + 1)) (by unfold In; omega), wu_id (x := 0 - (a + 1)) (by omega), wu_id (by omega)]
    congr 4
    omega
  · simp only [h, decide_false, cond_false, if_false]
    rw [wu_id (by omega)]
theorem size_spec {a : Int} (ha : In a) (st : Sto) : CallR ap 41 [.int .i64 a] st = some (.ret (.int .u64 (sz a)), st) := by
  rw [whole_size.call]
  refine ret_keep ?_ rfl rfl (Keeps.refl _ _)
  rw [whole_size.b_eq]
  unfold In at ha
  unfold sz
  by_cases h : a < 0
  · simp only [h, decide_true, cond_true, if_true]
    have : IntKind.wrap .u64 (0 - IntKind.wrap .u64 a) = -a := by rw [wu, wu]; omega
    rw [this]
  · simp only [h, decide_false, cond_false, if_false]
    rw [wu_id (by omega)]

theorem back_spec (below : Bool) (high low : Int) (hh : 0 ≤ high) (hl : 0 ≤ low ∧ low < 18446744073709551616) (st : Sto) :
    CallR ap 35 [.bool below, .int .u64 high, .int .u64 low] st = some (.ret (exact (if below = true then -(high * 18446744073709551616 + low) else high * 18446744073709551616 + low)), st) := by
  rw [stencilref1_back.call]
  refine ret_keep ?_ rfl rfl (Keeps.refl _ _)
  rw [stencilref1_back.b_eq]
  by_cases h1 : 0 < high
  · rw [exact_out (by unfold In; cases below <;> simp <;> omega)]
    simp only [h1, decide_true, cond_true, stencilref1_back.p1101_eq]
  · obtain rfl : high = 0 := by omega
    simp only [h1, decide_false, cond_false, Int.zero_mul, Int.zero_add]
    by_cases h2 : 9223372036854775808 < low
    · rw [exact_out (by unfold In; cases below <;> simp <;> omega)]
      simp only [h2, decide_true, cond_true, stencilref1_back.p1101_eq]
    · simp only [h2, decide_false, cond_false]
      by_cases h3 : low = 9223372036854775808
      · cases below with
        | false =>
          rw [exact_out (by unfold In; simp; omega)]
          simp only [h3, decide_true, cond_true, Bool.not_false, stencilref1_back.p1101_eq]
        | true =>
          rw [exact_in (by unfold In; simp; omega)]
          simp only [h3, decide_true, cond_true, cond_false, Bool.not_true, stencilref1_back.p1101_eq, stencilref1_back.p11101_eq, if_true, show decide ((0 : Int) < 9223372036854775808) = true from rfl]
          rfl
      · simp only [h3, decide_false, cond_false, stencilref1_back.p1101_eq]
        cases below with
        | false =>
          rw [exact_in (by unfold In; simp; omega)]
          simp only [cond_false, stencilref1_back.p11101_eq, Bool.false_eq_true, if_false]
          rw [wi_id (by unfold In; omega)]
        | true =>
          rw [exact_in (by unfold In; simp; omega)]
          simp only [cond_true, stencilref1_back.p11101_eq, if_true]
          by_cases h4 : 0 < low
          · simp only [h4, decide_true, cond_true]
            rw [wu_id (x := low - 1) (by omega), wi_id (x := low - 1) (by unfold In; omega), wi_id (x := 0 - (low - 1)) (by unfold In; omega), wi_id (x := 0 - (low - 1) - 1) (by unfold In; omega), show 0 - (low - 1) - 1 = -low by omega]
          · simp only [h4, decide_false, cond_false]
            obtain rfl : low = 0 := by omega
            rw [wi_id (by unfold In; omega)]
            rfl

/-- A call of back, its two parts taken and put together again. -/
theorem back_ret (below : Bool) (high low z : Int) (hh : 0 ≤ high) (hl : 0 ≤ low ∧ low < 18446744073709551616) (hz : (if below = true then -(high * 18446744073709551616 + low) else high * 18446744073709551616 + low) = z) (st : Sto) :
    ((CallR ap 35 [.bool below, .int .u64 high, .int .u64 low] st).bind fun x => x.1.on (fun v => (ext v 0).bind fun p => (ext v 1).bind fun q => some (⟨.ret (.tup [p, q]), none, x.2⟩ : Res)) (fun e => some ⟨.pan e, none, x.2⟩)) = some ⟨.ret (exact z), none, st⟩ := by
  rw [back_spec below high low hh hl, hz]
  rfl

theorem refNeg_spec {a : Int} (ha : In a) (st : Sto) : CallR ap 33 [.int .i64 a] st = some (.ret (exact (-a)), st) := by
  rw [stencilref1_Neg.call]
  refine ret_keep ?_ rfl rfl (Keeps.refl _ _)
  rw [stencilref1_Neg.b_eq]
  simp only [refSize_spec ha, Option.bind_some, Out.on]
  have hb := sz_bound ha
  refine back_ret _ _ _ _ (by omega) (by omega) ?_ st
  unfold sz
  by_cases h : 0 < a
  · simp only [h, decide_true, if_true]; split <;> omega
  · simp only [h, decide_false, Bool.false_eq_true, if_false]; split <;> omega

theorem refAdd_spec {a b : Int} (ha : In a) (hb : In b) (st : Sto) : CallR ap 30 [.int .i64 a, .int .i64 b] st = some (.ret (exact (a + b)), st) := by
  rw [stencilref1_Add.call]
  refine ret_keep ?_ rfl rfl (Keeps.refl _ _)
  rw [stencilref1_Add.b_eq]
  have h1 := sz_bound ha
  have h2 := sz_bound hb
  simp only [refSize_spec ha, refSize_spec hb, Option.bind_some, Out.on, asI, if_true, stencilref1_Add.p11101011_eq]
  have eab : ∀ (p q : Prop) [Decidable p] [Decidable q], (decide p == decide q) = decide (p ↔ q) := fun p q _ _ => by by_cases hp : p <;> by_cases hq : q <;> simp [hp, hq]
  rw [eab]
  by_cases hs : a < 0 ↔ b < 0
  · simp only [hs, decide_true, cond_true]
    by_cases hc : IntKind.wrap .u64 (sz a + sz b) < sz a
    · simp only [hc, decide_true, cond_true]
      refine back_ret _ _ _ _ (by omega) (by rw [wu]; omega) ?_ st
      rw [wu] at hc ⊢
      simp only [decide_eq_true_eq]
      rcases sz_cases a with ⟨p1, p2⟩ | ⟨p1, p2⟩ <;> rcases sz_cases b with ⟨p3, p4⟩ | ⟨p3, p4⟩ <;> split <;> omega
    · simp only [hc, decide_false, cond_false]
      refine back_ret _ _ _ _ (by omega) (by rw [wu]; omega) ?_ st
      rw [wu] at hc ⊢
      simp only [decide_eq_true_eq]
      rcases sz_cases a with ⟨p1, p2⟩ | ⟨p1, p2⟩ <;> rcases sz_cases b with ⟨p3, p4⟩ | ⟨p3, p4⟩ <;> split <;> omega
  · simp only [hs, decide_false, cond_false]
    by_cases hc : sz b ≤ sz a
    · simp only [hc, decide_true, cond_true]
      refine back_ret _ _ _ _ (by omega) (by rw [wu]; omega) ?_ st
      rw [wu_id (by omega)]
      simp only [decide_eq_true_eq]
      rcases sz_cases a with ⟨p1, p2⟩ | ⟨p1, p2⟩ <;> rcases sz_cases b with ⟨p3, p4⟩ | ⟨p3, p4⟩ <;> split <;> omega
    · simp only [hc, decide_false, cond_false]
      refine back_ret _ _ _ _ (by omega) (by rw [wu]; omega) ?_ st
      rw [wu_id (by omega)]
      simp only [decide_eq_true_eq]
      rcases sz_cases a with ⟨p1, p2⟩ | ⟨p1, p2⟩ <;> rcases sz_cases b with ⟨p3, p4⟩ | ⟨p3, p4⟩ <;> split <;> omega

theorem refSub_spec {a b : Int} (ha : In a) (hb : In b) (st : Sto) : CallR ap 31 [.int .i64 a, .int .i64 b] st = some (.ret (exact (a - b)), st) := by
  rw [stencilref1_Sub.call]
  refine ret_keep ?_ rfl rfl (Keeps.refl _ _)
  rw [stencilref1_Sub.b_eq]
  have h1 := sz_bound ha
  have h2 := sz_bound hb
  simp only [refSize_spec ha, refSize_spec hb, Option.bind_some, Out.on, asI, if_true, stencilref1_Sub.p11101011_eq]
  have eab : ∀ (p q : Prop) [Decidable p] [Decidable q], (!(decide p == decide q)) = decide (p ↔ ¬ q) := fun p q _ _ => by by_cases hp : p <;> by_cases hq : q <;> simp [hp, hq]
  rw [eab]
  by_cases hs : a < 0 ↔ ¬ b < 0
  · simp only [hs, decide_true, cond_true]
    by_cases hc : IntKind.wrap .u64 (sz a + sz b) < sz a
    · simp only [hc, decide_true, cond_true]
      refine back_ret _ _ _ _ (by omega) (by rw [wu]; omega) ?_ st
      rw [wu] at hc ⊢
      simp only [decide_eq_true_eq]
      rcases sz_cases a with ⟨p1, p2⟩ | ⟨p1, p2⟩ <;> rcases sz_cases b with ⟨p3, p4⟩ | ⟨p3, p4⟩ <;> split <;> omega
    · simp only [hc, decide_false, cond_false]
      refine back_ret _ _ _ _ (by omega) (by rw [wu]; omega) ?_ st
      rw [wu] at hc ⊢
      simp only [decide_eq_true_eq]
      rcases sz_cases a with ⟨p1, p2⟩ | ⟨p1, p2⟩ <;> rcases sz_cases b with ⟨p3, p4⟩ | ⟨p3, p4⟩ <;> split <;> omega
  · simp only [hs, decide_false, cond_false]
    by_cases hc : sz b ≤ sz a
    · simp only [hc, decide_true, cond_true]
      refine back_ret _ _ _ _ (by omega) (by rw [wu]; omega) ?_ st
      rw [wu_id (by omega)]
      simp only [decide_eq_true_eq]
      rcases sz_cases a with ⟨p1, p2⟩ | ⟨p1, p2⟩ <;> rcases sz_cases b with ⟨p3, p4⟩ | ⟨p3, p4⟩ <;> split <;> omega
    · simp only [hc, decide_false, cond_false]
      refine back_ret _ _ _ _ (by omega) (by rw [wu]; omega) ?_ st
      rw [wu_id (by omega)]
      simp only [decide_eq_true_eq]
      rcases sz_cases a with ⟨p1, p2⟩ | ⟨p1, p2⟩ <;> rcases sz_cases b with ⟨p3, p4⟩ | ⟨p3, p4⟩ <;> split <;> omega

end Go.Proofs.YtfbgcphjilpknaaDoor
