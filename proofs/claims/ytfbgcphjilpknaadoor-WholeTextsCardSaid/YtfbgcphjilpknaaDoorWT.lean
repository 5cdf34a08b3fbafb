/- Digits: what is read, what is written. -/
import Derived.Test.YtfbgcphjilpknaaDoorStS19
import Derived.Lib.AtoiAllCases
import Derived.Lib.ItoaNum
namespace Go.Proofs.YtfbgcphjilpknaaDoor
open Go.St Go.Lib
set_option linter.unusedVariables false
set_option linter.unusedSimpArgs false

def dig (c : UInt8) : Bool := decide (48 ≤ c.toNat) && decide (c.toNat ≤ 57)
def headOk : List UInt8 → Bool
  | [] => false
  | c :: _ => !decide (c = 48)
def valN (acc : Nat) (l : List UInt8) : Nat := l.foldl (fun a c => 10 * a + (c.toNat - 48)) acc
theorem valN_nil (acc : Nat) : valN acc [] = acc := by unfold valN; rw [List.foldl_nil]
theorem valN_cons (acc : Nat) (c : UInt8) (r : List UInt8) : valN acc (c :: r) = valN (10 * acc + (c.toNat - 48)) r := by unfold valN; rw [List.foldl_cons]
theorem valN_app (l : List UInt8) (c : UInt8) (acc : Nat) : valN acc (l ++ [c]) = 10 * valN acc l + (c.toNat - 48) := by unfold valN; rw [List.foldl_append, List.foldl_cons, List.foldl_nil]
def fitN (neg : Bool) (v : Nat) : Int × Int :=
  if neg = true then (if v ≤ 9223372036854775808 then (-(v : Int), 0) else (0, 100)) else (if v < 9223372036854775808 then ((v : Int), 0) else (0, 100))
def bodyB (d : List UInt8) : Bool := d.all dig && headOk d
def body (neg : Bool) (d : List UInt8) : Int × Int := if bodyB d = true then fitN neg (valN 0 d) else (0, 104)
/-- The sign, and what is behind it. -/
def below (l : List UInt8) : Bool := match l with
  | [] => false
  | c :: _ => decide (c = 45)
def rest (l : List UInt8) : List UInt8 := if below l = true then l.drop 1 else l
def ansN (l : List UInt8) : Int × Int := if l = [48] then (0, 0) else body (below l) (rest l)
def formedB (l : List UInt8) : Bool := decide (l = [48]) || bodyB (rest l)

theorem valN_ge (l : List UInt8) : ∀ acc, acc ≤ valN acc l := by
  induction l with
  | nil => intro acc; rw [valN_nil]; exact Nat.le_refl _
  | cons b r ih =>
    intro acc
    have := ih (10 * acc + (b.toNat - 48))
    rw [valN_cons]
    omega
theorem parse_val (l : List UInt8) (h : l.all dig = true) : ∀ acc, acc < 18446744073709551616 → (valN acc l < 18446744073709551616 → parseUint10 acc l = .ok (valN acc l)) ∧ (¬ valN acc l < 18446744073709551616 → parseUint10 acc l = .range) := by
  induction l with
  | nil => intro acc ha; simp only [valN_nil, parseUint10]; exact ⟨fun _ => True.intro, fun h => absurd ha h⟩
  | cons c r ih =>
    intro acc ha
    simp only [List.all_cons, Bool.and_eq_true, dig, decide_eq_true_eq] at h
    obtain ⟨hc, hr⟩ := h
    have hge := valN_ge r (10 * acc + (c.toNat - 48))
    simp only [parseUint10, valN_cons, hc, and_self, if_true]
    by_cases h1 : 1844674407370955162 ≤ acc
    · simp only [h1, if_true]
      exact ⟨fun h => by omega, fun _ => True.intro⟩
    · by_cases h2 : 18446744073709551616 ≤ acc * 10 + (c.toNat - 48)
      · simp only [h1, h2, if_false, if_true]
        exact ⟨fun h => by omega, fun _ => True.intro⟩
      · simp only [h1, h2, if_false]
        have := ih (by simpa only [dig] using hr) (acc * 10 + (c.toNat - 48)) (by omega)
        rw [show acc * 10 = 10 * acc by omega] at this ⊢
        exact this
theorem dig_ne {c : UInt8} (h : dig c = true) : c.toNat ≠ 43 ∧ c.toNat ≠ 45 ∧ c ≠ 45 := by
  simp only [dig, Bool.and_eq_true, decide_eq_true_eq] at h
  refine ⟨by omega, by omega, ?_⟩
  rintro rfl
  revert h
  decide

/-- What Parse gives, out of Atoi. -/
def parseN (l : List UInt8) : Int × Int := if formedB l = true then (match atoiAll l with | .ok v => (v, 0) | _ => (0, 100)) else (0, 104)
theorem parse_ans (l : List UInt8) : parseN l = ansN l := by
  unfold parseN ansN formedB
  by_cases h0 : l = [48]
  · subst h0
    rfl
  · rw [if_neg h0, decide_eq_false h0, Bool.false_or]
    unfold body
    cases hb : bodyB (rest l) with
    | false => rfl
    | true =>
      rw [if_pos rfl, if_pos rfl]
      have hd := hb
      unfold bodyB at hd
      rw [Bool.and_eq_true] at hd
      have hv := parse_val (rest l) hd.1 0 (by omega)
      cases l with
      | nil => simp [rest, below, headOk] at hd
      | cons c r =>
        by_cases hc : c = 45
        · subst hc
          have hr : rest (45 :: r) = r := rfl
          rw [hr] at hd hv ⊢
          have hne : r ≠ [] := by rintro rfl; simp [headOk] at hd
          rw [atoiAll_minus]
          unfold parseMag
          rw [if_neg hne, show below (45 :: r) = true from rfl]
          generalize valN 0 r = v at hv
          unfold fitN
          by_cases h1 : v < 18446744073709551616
          · rw [hv.1 h1]
            by_cases h2 : 9223372036854775808 < v
            · have h3 : ¬ v ≤ 9223372036854775808 := by omega
              simp only [signed, h2, h3, if_true, if_false]
            · have h3 : v ≤ 9223372036854775808 := by omega
              simp only [signed, h2, h3, if_true, if_false]
          · have h3 : ¬ v ≤ 9223372036854775808 := by omega
            rw [hv.2 h1]
            simp only [signed, h3, if_true, if_false]
        · have hbel : below (c :: r) = false := decide_eq_false hc
          have hr : rest (c :: r) = c :: r := by unfold rest; rw [hbel]; rfl
          rw [hr] at hd hv ⊢
          have hdc : dig c = true := by
            have := hd.1
            simp only [List.all_cons, Bool.and_eq_true] at this
            exact this.1
          obtain ⟨n1, n2, _⟩ := dig_ne hdc
          rw [atoiAll_plain c r n1 n2]
          unfold parseMag
          rw [if_neg (by simp), hbel]
          generalize valN 0 (c :: r) = v at hv
          unfold fitN
          by_cases h1 : v < 18446744073709551616
          · rw [hv.1 h1]
            by_cases h2 : 9223372036854775808 ≤ v
            · have h3 : ¬ v < 9223372036854775808 := by omega
              simp only [signless, h2, h3, if_true, if_false, Bool.false_eq_true]
            · have h3 : v < 9223372036854775808 := by omega
              simp only [signless, h2, h3, if_true, if_false, Bool.false_eq_true]
          · have h3 : ¬ v < 9223372036854775808 := by omega
            rw [hv.2 h1]
            simp only [signless, h3, if_true, if_false, Bool.false_eq_true]

/-! ### There and back -/
theorem digit_of (k : Nat) (h : k < 10) : (UInt8.ofNat (48 + k)).toNat = 48 + k := by simp; omega
theorem dec_props (u : Nat) : (decDigits u).all dig = true ∧ valN 0 (decDigits u) = u ∧ (0 < u → headOk (decDigits u) = true) ∧ decDigits u ≠ [] := by
  induction u using Nat.strongRecOn with
  | _ u ih =>
    by_cases h : u < 10
    · rw [decDigits, dif_pos h]
      have hd := digit_of u h
      refine ⟨?_, ?_, fun h0 => ?_, by simp⟩
      · simp only [List.all_cons, List.all_nil, dig, hd, Bool.and_true, Bool.and_eq_true, decide_eq_true_eq]; omega
      · rw [valN_cons, valN_nil, hd]; omega
      · have : UInt8.ofNat (48 + u) ≠ 48 := fun e => by
          have := congrArg UInt8.toNat e
          rw [hd] at this
          simp at this
          omega
        show (!decide (UInt8.ofNat (48 + u) = 48)) = true
        rw [decide_eq_false this]
        rfl
    · rw [decDigits, dif_neg h]
      obtain ⟨h1, h2, h3, h4⟩ := ih (u / 10) (by omega)
      have hd := digit_of (u % 10) (by omega)
      refine ⟨?_, ?_, fun h0 => ?_, by simp⟩
      · simp only [List.all_append, h1, List.all_cons, List.all_nil, dig, hd, Bool.and_true, Bool.true_and, Bool.and_eq_true, decide_eq_true_eq]; omega
      · rw [valN_app, h2, hd]; omega
      · have h5 := h3 (by omega)
        cases hq : decDigits (u / 10) with
        | nil => exact absurd hq h4
        | cons c r =>
          rw [hq] at h5
          exact h5
theorem dec_small {u : Nat} (h : u < 10) : decDigits u = [UInt8.ofNat (48 + u)] := by rw [decDigits, dif_pos h]
theorem dec_val : ∀ (m : Nat) (d : List UInt8), d.length ≤ m → d.all dig = true → headOk d = true → decDigits (valN 0 d) = d ∧ 0 < valN 0 d := by
  intro m
  induction m with
  | zero =>
    intro d hm _ hh
    have : d = [] := List.eq_nil_of_length_eq_zero (by omega)
    subst this
    cases hh
  | succ m ih =>
    intro d hm hd hh
    rcases List.eq_nil_or_concat d with rfl | ⟨r, c, rfl⟩
    · cases hh
    · rw [List.concat_eq_append] at hm hd hh ⊢
      simp only [List.all_append, List.all_cons, List.all_nil, Bool.and_true, Bool.and_eq_true] at hd
      obtain ⟨hr, hc⟩ := hd
      simp only [dig, Bool.and_eq_true, decide_eq_true_eq] at hc
      have hback : UInt8.ofNat (48 + (c.toNat - 48)) = c := by
        rw [show 48 + (c.toNat - 48) = c.toNat by omega]
        exact UInt8.ofNat_toNat
      rw [valN_app]
      by_cases hn : r = []
      · subst hn
        have hc0 : c ≠ 48 := by
          intro e
          subst e
          simp [headOk] at hh
        have hc1 : c.toNat ≠ 48 := fun e => hc0 (UInt8.toNat_inj.1 e)
        simp only [valN_nil, Nat.mul_zero, Nat.zero_add, List.nil_append]
        refine ⟨?_, by omega⟩
        rw [dec_small (by omega), hback]
      · have hh' : headOk r = true := by
          cases r with
          | nil => exact absurd rfl hn
          | cons b q => exact hh
        obtain ⟨h1, h2⟩ := ih r (by simp at hm; omega) hr hh'
        refine ⟨?_, by omega⟩
        rw [decDigits, dif_neg (by omega), show (10 * valN 0 r + (c.toNat - 48)) / 10 = valN 0 r by omega, show (10 * valN 0 r + (c.toNat - 48)) % 10 = c.toNat - 48 by omega, h1, hback]

theorem ans_text {a : Int} (h : -9223372036854775808 ≤ a ∧ a < 9223372036854775808) : ansN (itoa a) = (a, 0) := by
  unfold itoa
  by_cases h0 : a < 0
  · rw [if_pos h0]
    obtain ⟨h1, h2, h3, h4⟩ := dec_props a.natAbs
    have hne : (45 :: decDigits a.natAbs) ≠ [48] := by simp
    unfold ansN
    rw [if_neg hne, show below (45 :: decDigits a.natAbs) = true from rfl, show rest (45 :: decDigits a.natAbs) = decDigits a.natAbs from rfl]
    unfold body
    rw [if_pos (by unfold bodyB; rw [h1, h3 (by omega)]; rfl), h2]
    unfold fitN
    rw [if_pos rfl, if_pos (by omega)]
    refine Prod.ext ?_ rfl
    show -((a.natAbs : Nat) : Int) = a
    omega
  · rw [if_neg h0]
    by_cases hz : a = 0
    · subst hz
      rw [show (0 : Int).toNat = 0 from rfl, dec_small (by omega)]
      rfl
    · obtain ⟨h1, h2, h3, h4⟩ := dec_props a.toNat
      have h3 := h3 (by omega)
      cases hq : decDigits a.toNat with
      | nil => exact absurd hq h4
      | cons c r =>
        rw [hq] at h1 h2 h3
        have hdc : dig c = true := by
          have := h1
          simp only [List.all_cons, Bool.and_eq_true] at this
          exact this.1
        obtain ⟨_, _, n3⟩ := dig_ne hdc
        have hbel : below (c :: r) = false := decide_eq_false n3
        have hr : rest (c :: r) = c :: r := by unfold rest; rw [hbel]; rfl
        have hne : (c :: r) ≠ [48] := by
          intro e
          rw [e] at h3
          simp [headOk] at h3
        unfold ansN
        rw [if_neg hne, hbel, hr]
        unfold body
        rw [if_pos (by unfold bodyB; rw [h1, h3]; rfl), h2]
        unfold fitN
        rw [if_neg (by simp), if_pos (by omega)]
        refine Prod.ext ?_ rfl
        show ((a.toNat : Nat) : Int) = a
        omega
theorem text_ans {l : List UInt8} {x : Int} (h : ansN l = (x, 0)) : itoa x = l ∧ -9223372036854775808 ≤ x ∧ x ≤ 9223372036854775807 := by
  unfold ansN at h
  by_cases h0 : l = [48]
  · rw [if_pos h0] at h
    cases h
    subst h0
    refine ⟨?_, by omega⟩
    unfold itoa
    rw [if_neg (by omega), show (0 : Int).toNat = 0 from rfl, dec_small (by omega)]
    rfl
  · rw [if_neg h0] at h
    unfold body at h
    split at h
    · rename_i hb
      unfold bodyB at hb
      rw [Bool.and_eq_true] at hb
      obtain ⟨h1, h2⟩ := dec_val _ (rest l) (Nat.le_refl _) hb.1 hb.2
      unfold fitN at h
      cases hbel : below l with
      | true =>
        rw [hbel] at h
        simp only [if_true] at h
        split at h
        · cases h
          have hl : l = 45 :: rest l := by
            cases l with
            | nil => cases hbel
            | cons c r =>
              have hc : c = 45 := of_decide_eq_true hbel
              subst hc
              rfl
          refine ⟨?_, by omega⟩
          unfold itoa
          rw [if_pos (by omega)]
          conv => rhs; rw [hl]
          rw [show (-((valN 0 (rest l) : Nat) : Int)).natAbs = valN 0 (rest l) by omega, h1]
        · cases h
      | false =>
        rw [hbel] at h
        simp only [Bool.false_eq_true, if_false] at h
        have hr : rest l = l := by unfold rest; rw [hbel]; rfl
        split at h
        · cases h
          refine ⟨?_, by omega⟩
          unfold itoa
          rw [if_neg (by omega), Int.toNat_natCast, h1, hr]
        · cases h
    · cases h
end Go.Proofs.YtfbgcphjilpknaaDoor
