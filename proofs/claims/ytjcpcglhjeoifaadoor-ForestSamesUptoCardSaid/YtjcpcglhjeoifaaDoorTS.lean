/- Forests out of what a row reads. -/
import Derived.Test.YtjcpcglhjeoifaaDoorTK
namespace Go.Proofs.YtjcpcglhjeoifaaDoor
open Go.St Go.Lib
set_option linter.unusedVariables false
set_option linter.unusedSimpArgs false

theorem t9 : assoc 9 ap.tab = some td9 := by kernel_rfl
theorem t22 : assoc 22 ap.tab = some td22 := by kernel_rfl
theorem t35 : assoc 35 ap.tab = some td35 := by kernel_rfl
theorem t37 : assoc 37 ap.tab = some td37 := by kernel_rfl
theorem t39 : assoc 39 ap.tab = some td39 := by kernel_rfl

theorem str_shape {n : Nat} {l : List AV} (h : Shp ap n 9 l) : ∃ s : ByteArray, l = [.str s] := by
  cases n with
  | zero => exact h.elim
  | succ n =>
    simp only [Shp, t9] at h
    obtain ⟨s, h, _⟩ := h
    exact ⟨s, h⟩

theorem rowAV_at {ms : List (List AV)} (h : ms.length = 0 ∨ ms.flatten.length ≠ 0) : rowAV ms = .is ms.flatten ms.length .no := by
  unfold rowAV
  rw [if_pos h]

theorem bulks_acells (ats : List (ByteArray × ByteArray)) : bulks (acells ats) = asz ats := by
  induction ats with
  | nil => rfl
  | cons x r ih => simp only [acells, bulks, AV.bulk, asz, ih]; omega

theorem atts_of : ∀ ms : List (List AV), (∀ m ∈ ms, ∃ x : ByteArray × ByteArray, m = [.str x.1, .str x.2]) → ∃ ats, ats.length = ms.length ∧ ms.flatten = acells ats := by
  intro ms
  induction ms with
  | nil => exact fun _ => ⟨[], rfl, rfl⟩
  | cons m r ih =>
    intro h
    obtain ⟨x, rfl⟩ := h m (by simp)
    obtain ⟨ats, h1, h2⟩ := ih fun m hm => h m (by simp [hm])
    exact ⟨x :: ats, by simp [h1], by simp [acells, h2]⟩

theorem att_shape {n : Nat} {l : List AV} (h : Shp ap n 35 l) : ∃ a ats, l = [a] ∧ AttV ats a ∧ asz ats + 1 ≤ a.bulk := by
  cases n with
  | zero => exact h.elim
  | succ n =>
    simp only [Shp, t35] at h
    rcases h with rfl | ⟨ms, rfl, _, hm⟩
    · exact ⟨_, [], rfl, .inl ⟨rfl, rfl⟩, by simp [asz, AV.bulk]⟩
    · obtain ⟨ats, h1, h2⟩ := atts_of ms fun m hmm => by
        have h := hm m hmm
        cases n with
        | zero => exact h.elim
        | succ n =>
          simp only [Shp, t39] at h
          obtain ⟨ps, rfl, hl, hp⟩ := h
          match ps, hl with
          | [p, q], _ =>
            obtain ⟨s, rfl⟩ := str_shape (hp 0 _ _ rfl rfl)
            obtain ⟨t, rfl⟩ := str_shape (hp 1 _ _ rfl rfl)
            exact ⟨(s, t), rfl⟩
      have hc := acells_len ats
      refine ⟨_, ats, rfl, ?_⟩
      rw [rowAV_at (by rw [h2, hc]; omega), h2, ← h1]
      refine ⟨.inr ⟨[], .no, by simp⟩, ?_⟩
      rw [AV.bulk, bulks_acells]
      exact Nat.le_refl _

def TreeCells (m : List AV) : Prop := ∃ tag text a k ats kids, m = [.str tag, .str text, a, k] ∧ AttV ats a ∧ asz ats + 1 ≤ a.bulk ∧ FoV kids k ∧ kids.sz + 1 ≤ k.bulk

theorem trees_of : ∀ ms : List (List AV), (∀ m ∈ ms, TreeCells m) → ∃ ts : Fo, ts.len = ms.length ∧ Row ts ms.flatten ∧ ts.sz ≤ bulks ms.flatten ∧ ms.flatten.length = 4 * ms.length := by
  intro ms
  induction ms with
  | nil => exact fun _ => ⟨.nil, rfl, trivial, by simp [Fo.sz], rfl⟩
  | cons m r ih =>
    intro h
    obtain ⟨tag, text, a, k, ats, kids, rfl, h1, h2, h3, h4⟩ := h m (by simp)
    obtain ⟨ts, k1, k2, k3, k4⟩ := ih fun m hm => h m (by simp [hm])
    refine ⟨.cons tag text ats kids ts, by simp [Fo.len, k1], ⟨a, k, r.flatten, rfl, h1, h3, k2⟩, ?_, ?_⟩
    · rw [List.flatten_cons, bulks_app]
      simp only [Fo.sz, bulks, AV.bulk]
      omega
    · rw [List.flatten_cons, List.length_append, k4]
      simp
      omega

theorem fo_shape : ∀ (n : Nat) (l : List AV), Shp ap n 22 l → ∃ v ts, l = [v] ∧ FoV ts v ∧ ts.sz + 1 ≤ v.bulk := by
  intro n
  induction n using Nat.strongRecOn with
  | ind n ih =>
    intro l h
    cases n with
    | zero => exact h.elim
    | succ n =>
      simp only [Shp, t22] at h
      rcases h with rfl | ⟨ms, rfl, _, hm⟩
      · exact ⟨_, .nil, rfl, .inl ⟨rfl, rfl⟩, by simp [Fo.sz, AV.bulk]⟩
      · obtain ⟨ts, h1, h2, h3, h4⟩ := trees_of ms fun m hmm => by
          have h := hm m hmm
          cases n with
          | zero => exact h.elim
          | succ n =>
            simp only [Shp, t37] at h
            obtain ⟨ps, rfl, hl, hp⟩ := h
            match ps, hl with
            | [p, q, r, s], _ =>
              obtain ⟨x, rfl⟩ := str_shape (hp 0 _ _ rfl rfl)
              obtain ⟨y, rfl⟩ := str_shape (hp 1 _ _ rfl rfl)
              obtain ⟨a, ats, rfl, ha, hb⟩ := att_shape (hp 2 _ _ rfl rfl)
              obtain ⟨k, kids, rfl, hk, hkb⟩ := ih n (by omega) _ (hp 3 _ _ rfl rfl)
              exact ⟨x, y, a, k, ats, kids, rfl, ha, hb, hk, hkb⟩
        refine ⟨_, ts, rfl, ?_⟩
        rw [rowAV_at (by omega), ← h1]
        refine ⟨.inr ⟨_, _, rfl, h2⟩, ?_⟩
        rw [AV.bulk]
        omega

theorem checks_law {n : Nat} {l : List AV} (h : Shp ap n 22 l) (hb : bulks l ≤ 1048576) : CallR ap 3 [l.headD .any] [] = some (.ret (.bool true), []) := by
  obtain ⟨v, ts, rfl, hv, hs⟩ := fo_shape n l h
  simp only [bulks] at hb
  exact checks hv (by omega)
end Go.Proofs.YtjcpcglhjeoifaaDoor
