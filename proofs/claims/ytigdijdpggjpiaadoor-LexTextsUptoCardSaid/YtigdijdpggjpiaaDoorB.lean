/- There and back: what is escaped is read back. -/
import Derived.Test.YtigdijdpggjpiaaDoorH
namespace Go.Proofs.YtigdijdpggjpiaaDoor
open Go.St
set_option linter.unusedVariables false
set_option linter.unusedSimpArgs false

theorem hit38 (r : List UInt8) : hit five (38 :: 97 :: 109 :: 112 :: 59 :: r) = some 38 := by kernel_rfl
theorem hit60 (r : List UInt8) : hit five (38 :: 108 :: 116 :: 59 :: r) = some 60 := by kernel_rfl
theorem hit62 (r : List UInt8) : hit five (38 :: 103 :: 116 :: 59 :: r) = some 62 := by kernel_rfl
theorem hit123 (r : List UInt8) : hit five (38 :: 108 :: 98 :: 114 :: 97 :: 99 :: 101 :: 59 :: r) = some 123 := by kernel_rfl
theorem hit34 (r : List UInt8) : hit five (38 :: 113 :: 117 :: 111 :: 116 :: 59 :: r) = some 34 := by kernel_rfl

/-- What stands for a byte: five cases, or the byte. -/
theorem E1_cases (q : Bool) (c : UInt8) : (c = 38 ∧ E1 q c = [38, 97, 109, 112, 59]) ∨ (c = 60 ∧ E1 q c = [38, 108, 116, 59]) ∨ (c = 62 ∧ E1 q c = [38, 103, 116, 59]) ∨ (c = 123 ∧ E1 q c = [38, 108, 98, 114, 97, 99, 101, 59]) ∨
    (c = 34 ∧ q = true ∧ E1 q c = [38, 113, 117, 111, 116, 59]) ∨ (c ≠ 38 ∧ c ≠ 60 ∧ c ≠ 62 ∧ c ≠ 123 ∧ (c = 34 → q = false) ∧ E1 q c = [c]) := by
  by_cases h1 : c = 38
  · subst h1; cases q <;> exact .inl ⟨rfl, rfl⟩
  by_cases h2 : c = 60
  · subst h2; cases q <;> exact .inr (.inl ⟨rfl, rfl⟩)
  by_cases h3 : c = 62
  · subst h3; cases q <;> exact .inr (.inr (.inl ⟨rfl, rfl⟩))
  by_cases h4 : c = 123
  · subst h4; cases q <;> exact .inr (.inr (.inr (.inl ⟨rfl, rfl⟩)))
  by_cases h5 : c = 34 ∧ q = true
  · obtain ⟨rfl, rfl⟩ := h5; exact .inr (.inr (.inr (.inr (.inl ⟨rfl, rfl, rfl⟩))))
  · have ne : ∀ k : UInt8, c ≠ k → ¬ (((c.toNat : Nat) : Int) = ((k.toNat : Nat) : Int)) := fun k hk e => hk (UInt8.toNat_inj.1 (by omega))
    have hW : W c.toNat q = ⟨#[]⟩ := by
      have n1 : ¬ (((c.toNat : Nat) : Int) = 38) := ne 38 h1
      have n2 : ¬ (((c.toNat : Nat) : Int) = 60) := ne 60 h2
      have n3 : ¬ (((c.toNat : Nat) : Int) = 62) := ne 62 h3
      have n4 : ¬ (((c.toNat : Nat) : Int) = 123) := ne 123 h4
      unfold W
      rw [if_neg n1, if_neg n2, if_neg n3, if_neg n4, if_neg]
      rintro ⟨e, hq⟩
      exact h5 ⟨UInt8.toNat_inj.1 (show c.toNat = (34 : UInt8).toNat by have : ((34 : UInt8).toNat : Nat) = 34 := rfl; omega), hq⟩
    refine .inr (.inr (.inr (.inr (.inr ⟨h1, h2, h3, h4, fun e => ?_, by unfold E1; rw [if_pos hW]⟩))))
    cases q
    · rfl
    · exact absurd ⟨e, rfl⟩ h5

theorem pl_esc (q : Bool) : ∀ (l : List UInt8) (n i : Nat) (acc : List UInt8), (esc q l).length ≤ n → pl n (esc q l) i acc = (some (acc ++ l), 0) := by
  intro l
  induction l with
  | nil => intro n i acc h; cases n <;> simp [esc, pl]
  | cons c r ih =>
    intro n i acc h
    have he : esc q (c :: r) = E1 q c ++ esc q r := by simp [esc]
    rw [he] at h ⊢
    have fin : ∀ (m j : Nat), (esc q r).length ≤ m → pl m (esc q r) j (acc ++ [c]) = (some (acc ++ c :: r), 0) := fun m j hm => by rw [ih m j _ hm]; simp
    rcases E1_cases q c with ⟨rfl, e⟩ | ⟨rfl, e⟩ | ⟨rfl, e⟩ | ⟨rfl, e⟩ | ⟨rfl, hq, e⟩ | ⟨h1, h2, h3, h4, h5, e⟩ <;> rw [e] at h ⊢ <;> simp only [List.length_append, List.length_cons, List.length_nil] at h <;> (obtain ⟨m, rfl⟩ : ∃ m, n = m + 1 := ⟨n - 1, by omega⟩)
    · simp only [pl, List.cons_append, List.nil_append, ne_eq, not_true_eq_false, if_false, hit38]
      exact fin m _ (by omega)
    · simp only [pl, List.cons_append, List.nil_append, ne_eq, not_true_eq_false, if_false, hit60]
      exact fin m _ (by omega)
    · simp only [pl, List.cons_append, List.nil_append, ne_eq, not_true_eq_false, if_false, hit62]
      exact fin m _ (by omega)
    · simp only [pl, List.cons_append, List.nil_append, ne_eq, not_true_eq_false, if_false, hit123]
      exact fin m _ (by omega)
    · simp only [pl, List.cons_append, List.nil_append, ne_eq, not_true_eq_false, if_false, hit34]
      exact fin m _ (by omega)
    · simp only [pl, List.cons_append, List.nil_append, ne_eq, h1, not_false_eq_true, if_true]
      exact fin m _ (by omega)

theorem mk_list (l : List UInt8) : (mk l).data.toList = l := by simp [mk]

/-- None of the bytes that mean something. -/
def quiet (c : UInt8) : Prop := c ≠ 60 ∧ c ≠ 62 ∧ c ≠ 34 ∧ c ≠ 123
theorem esc_quiet : ∀ (l : List UInt8), ∀ b ∈ esc true l, quiet b := by
  intro l b hb
  simp only [esc, List.mem_flatMap] at hb
  obtain ⟨c, _, hb⟩ := hb
  rcases E1_cases true c with ⟨_, e⟩ | ⟨_, e⟩ | ⟨_, e⟩ | ⟨_, e⟩ | ⟨_, _, e⟩ | ⟨h1, h2, h3, h4, h5, e⟩ <;> rw [e] at hb
  all_goals simp only [List.mem_cons, List.not_mem_nil, or_false] at hb
  · rcases hb with rfl | rfl | rfl | rfl | rfl <;> (refine ⟨?_, ?_, ?_, ?_⟩ <;> decide)
  · rcases hb with rfl | rfl | rfl | rfl <;> (refine ⟨?_, ?_, ?_, ?_⟩ <;> decide)
  · rcases hb with rfl | rfl | rfl | rfl <;> (refine ⟨?_, ?_, ?_, ?_⟩ <;> decide)
  · rcases hb with rfl | rfl | rfl | rfl | rfl | rfl | rfl | rfl <;> (refine ⟨?_, ?_, ?_, ?_⟩ <;> decide)
  · rcases hb with rfl | rfl | rfl | rfl | rfl | rfl <;> (refine ⟨?_, ?_, ?_, ?_⟩ <;> decide)
  · subst hb
    exact ⟨h2, h3, fun e => (by cases h5 e), h4⟩

end Go.Proofs.YtigdijdpggjpiaaDoor
