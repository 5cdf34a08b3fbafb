/- Values: numbers and depths of parts, in plain Lean. -/
import Derived.Test.YtiiooldjegoikaaDoorVP
namespace Go.Proofs.YtiiooldjegoikaaDoor
open Go.St Go.Lib
set_option linter.unusedVariables false
set_option linter.unusedSimpArgs false

/-- How many values a row is, with all their parts. -/
def cnt : Va → Nat
  | .nil => 0
  | .cons _ p r => cnt p + cnt r + 1
def Va.drop : Va → Nat → Va
  | ts, 0 => ts
  | .nil, _ + 1 => .nil
  | .cons _ _ r, i + 1 => r.drop i

theorem fault_mono {m d m' d' : Nat} {h : Hd} {k : Nat} (hf : fault m d h k = 0) (hm : m' ≤ m) (hd : d' ≤ d) : fault m' d' h k = 0 := by
  have := fault_le hf
  unfold fault at hf ⊢
  rw [if_neg (by omega), if_neg (by omega)] at hf ⊢
  exact hf
theorem lk_mono : ∀ (ts : Va) (m d m' d' : Nat), (lkL ts m d).2 = 0 → m' ≤ m → d' ≤ d → lkL ts m d = (m + cnt ts, 0) ∧ lkL ts m' d' = (m' + cnt ts, 0) := by
  intro ts
  induction ts with
  | nil => intro m d m' d' _ _ _; exact ⟨rfl, rfl⟩
  | cons h p r ihp ihr =>
    intro m d m' d' hz hm hd
    by_cases hf : fault m d h p.len = 0
    · have hf' := fault_mono hf hm hd
      simp only [lkL, hf, if_true] at hz
      by_cases hp : (lkL p (m + 1) (d + 1)).2 = 0
      · obtain ⟨a1, a2⟩ := ihp (m + 1) (d + 1) (m' + 1) (d' + 1) hp (by omega) (by omega)
        simp only [hp, if_true] at hz
        rw [a1] at hz
        obtain ⟨b1, b2⟩ := ihr (m + 1 + cnt p) d (m' + 1 + cnt p) d' hz (by omega) hd
        simp only [lkL, hf, hf', if_true, a1, a2, b1, b2, cnt]
        constructor <;> congr 1 <;> omega
      · simp only [hp, if_false] at hz
    · simp only [lkL, hf, if_false] at hz
theorem lk_rest {h : Hd} {p r : Va} {m d : Nat} (hz : (lkL (.cons h p r) m d).2 = 0) : fault m d h p.len = 0 ∧ (lkL p (m + 1) (d + 1)).2 = 0 ∧ (lkL r m d).2 = 0 := by
  by_cases hf : fault m d h p.len = 0
  · simp only [lkL, hf, if_true] at hz
    by_cases hp : (lkL p (m + 1) (d + 1)).2 = 0
    · obtain ⟨a1, _⟩ := lk_mono p (m + 1) (d + 1) _ _ hp (Nat.le_refl _) (Nat.le_refl _)
      simp only [hp, if_true] at hz
      rw [a1] at hz
      obtain ⟨_, b2⟩ := lk_mono r (m + 1 + cnt p) d m d hz (by omega) (Nat.le_refl _)
      exact ⟨hf, hp, by rw [b2]⟩
    · simp only [hp, if_false] at hz
  · simp only [lkL, hf, if_false] at hz
theorem lk_drop : ∀ (ts : Va) (i m d : Nat), (lkL ts m d).2 = 0 → (lkL (ts.drop i) m d).2 = 0 := by
  intro ts
  induction ts with
  | nil => intro i m d h; cases i <;> exact h
  | cons h p r ihp ihr =>
    intro i m d hz
    cases i with
    | zero => exact hz
    | succ i => exact ihr i m d (lk_rest hz).2.2
theorem get_drop : ∀ {ts : Va} {i : Nat} {h : Hd} {p r : Va}, ts.drop i = .cons h p r → ts.get i = some (h, p) ∧ ts.drop (i + 1) = r ∧ i < ts.len := by
  intro ts
  induction ts with
  | nil => intro i h p r e; cases i <;> cases e
  | cons x px rx ihp ihr =>
    intro i h p r e
    cases i with
    | zero => cases e; exact ⟨rfl, by cases rx <;> rfl, by simp only [Va.len]; omega⟩
    | succ i =>
      obtain ⟨a, b, c⟩ := ihr e
      exact ⟨a, b, by simp only [Va.len]; omega⟩
/-- One part of what may be may be, and is as many and as deep as it is there. -/
theorem part_code {h : Hd} {p r : Va} {m d : Nat} (hd : 1 ≤ d) (hz : (lkL (.cons h p r) m d).2 = 0) : codeC h p = 0 ∧ countC h p = cnt p + 1 ∧ depthC h p = deepL p + 1 := by
  obtain ⟨hf, hp, _⟩ := lk_rest hz
  have hp' := (lk_mono p (m + 1) (d + 1) (0 + 1) (1 + 1) hp (by omega) (by omega)).2
  have hf' := fault_mono (m' := 0) (d' := 1) hf (by omega) hd
  have key : lkL (.cons h p .nil) 0 1 = (cnt p + 1, 0) := by
    simp only [lkL, hf', if_true, hp']
    congr 1; omega
  refine ⟨by rw [codeC_eq, key], by rw [countC_eq, key]; rfl, by rw [depthC_eq, key]; rfl⟩
theorem alone_of {m d : Nat} {h : Hd} {k : Nat} (hf : fault m d h k = 0) : alone h k = true := by
  unfold fault at hf
  split at hf
  · cases hf
  · split at hf
    · cases hf
    · split at hf
      · cases hf
      · split at hf
        · assumption
        · cases hf
open Classical in
theorem alone_kind {h : Hd} {k : Nat} (ha : alone h k = true) : (0 < k → h.k = 5 ∨ h.k = 6) ∧ (h.k = 6 → h.names.length = k ∧ h.names.Nodup) := by
  unfold alone at ha
  simp only [Bool.and_eq_true, Bool.not_eq_true', Bool.and_eq_false_iff, decide_eq_false_iff_not, Bool.not_eq_false', decide_eq_true_eq] at ha
  obtain ⟨_, _, _, _, h5, h6, h7, _⟩ := ha
  rw [namesB_eq _ _ List.nodup_nil] at h7
  simp only [List.nil_append, Bool.and_eq_true, decide_eq_true_eq] at h7
  refine ⟨fun hk => ?_, fun h6' => ⟨?_, h7.2⟩⟩
  · rcases h5 with h5 | h5 | h5
    · exact absurd hk h5
    · exact .inl h5
    · exact .inr h5
  · rcases h6 with h6 | h6
    · exact absurd h6' h6
    · exact h6
theorem findP_at {x : ByteArray} : ∀ {l : List ByteArray} {i : Nat}, l.Nodup → l[i]? = some x → findP x l = some i := by
  intro l
  induction l with
  | nil => intro i _ h; simp at h
  | cons y r ih =>
    intro i hn h
    rw [List.nodup_cons] at hn
    cases i with
    | zero => simp at h; simp [findP, h]
    | succ i =>
      simp only [List.getElem?_cons_succ] at h
      have : x ≠ y := fun e => hn.1 (by rw [← e]; exact List.mem_of_getElem? h)
      simp [findP, this, ih hn.2 h]
end Go.Proofs.YtiiooldjegoikaaDoor
