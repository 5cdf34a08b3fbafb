/- Texts as runes: the plain part. -/
import Derived.Lib.DecodeNEq
import Derived.Test.YtcgepgahgihojaaDoorStS20
namespace Go.Proofs.YtcgepgahgihojaaDoor
open Go.St Go.Lib
set_option linter.unusedVariables false
set_option linter.unusedSimpArgs false

theorem get_data (s : ByteArray) (i : Nat) : s.get! i = s.data[i]! := by cases s; rfl
def bat (s : ByteArray) (i : Nat) : Nat := (s.get! i).toNat
theorem byt_bat (s : ByteArray) (i : Nat) : byt s i = (bat s i : Int) := by
  have h : byt s i = (bat s i : Int) := rfl
  exact h.trans (Eq.refl _)
theorem idx0 {n : Nat} (h : 0 < n) : idx 0 n = some 0 := by have := idx_nat h; simpa using this
theorem idx1 {n : Nat} (h : 1 < n) : idx 1 n = some 1 := by have := idx_nat h; simpa using this
theorem idx2 {n : Nat} (h : 2 < n) : idx 2 n = some 2 := by have := idx_nat h; simpa using this
theorem idx3 {n : Nat} (h : 3 < n) : idx 3 n = some 3 := by have := idx_nat h; simpa using this
theorem bat_lt (s : ByteArray) (i : Nat) : bat s i < 256 := UInt8.toNat_lt _
def dec (s : ByteArray) (i : Nat) : Nat × Nat := Utf8.decode s i
theorem dec_eq (s : ByteArray) (i : Nat) : dec s i = decodeN (s.size - i) (bat s i) (bat s (i + 1)) (bat s (i + 2)) (bat s (i + 3)) := decode_at s i

theorem decodeN_cases (n b0 b1 b2 b3 : Nat) (h0 : b0 < 256) :
    (b0 < 128 ∧ decodeN n b0 b1 b2 b3 = (b0, 1)) ∨ (128 ≤ b0 ∧ decodeN n b0 b1 b2 b3 = (65533, 1)) ∨
    (194 ≤ b0 ∧ 128 ≤ (decodeN n b0 b1 b2 b3).1 ∧ 2 ≤ (decodeN n b0 b1 b2 b3).2 ∧ (decodeN n b0 b1 b2 b3).2 ≤ 4 ∧ (decodeN n b0 b1 b2 b3).2 ≤ n ∧ b1 / 64 = 2 ∧
      (3 ≤ (decodeN n b0 b1 b2 b3).2 → b2 / 64 = 2) ∧ (4 ≤ (decodeN n b0 b1 b2 b3).2 → b3 / 64 = 2)) := by
  simp only [decodeN]
  split
  · exact .inl ⟨‹_›, rfl⟩
  · split
    · split
      · refine .inr (.inr ⟨?_, ?_, ?_, ?_, ?_, ?_, ?_, ?_⟩) <;> (try simp only) <;> omega
      · exact .inr (.inl ⟨by omega, rfl⟩)
    · split
      · split
        · refine .inr (.inr ⟨?_, ?_, ?_, ?_, ?_, ?_, ?_, ?_⟩) <;> (try simp only) <;> omega
        · exact .inr (.inl ⟨by omega, rfl⟩)
      · split
        · split
          · refine .inr (.inr ⟨?_, ?_, ?_, ?_, ?_, ?_, ?_, ?_⟩) <;> (try simp only) <;> omega
          · exact .inr (.inl ⟨by omega, rfl⟩)
        · exact .inr (.inl ⟨by omega, rfl⟩)

/-- Of what follows a rune nothing is looked at. -/
theorem decodeN_loc {n b0 b1 b2 b3 r m : Nat} (h : decodeN n b0 b1 b2 b3 = (r, m)) (hok : ¬ (m = 1 ∧ 128 ≤ b0)) {n' b1' b2' b3' : Nat} (hn : m ≤ n') (h1 : 2 ≤ m → b1' = b1) (h2 : 3 ≤ m → b2' = b2) (h3 : 4 ≤ m → b3' = b3) :
    decodeN n' b0 b1' b2' b3' = (r, m) := by
  simp only [decodeN] at h
  split at h
  · cases h; simp only [decodeN]; rw [if_pos ‹_›]
  · split at h
    · split at h
      · cases h
        obtain rfl := h1 (by omega)
        simp only [decodeN]
        rw [if_neg ‹_›, if_pos (by omega), if_pos ‹_›]
      · cases h; omega
    · split at h
      · split at h
        · cases h
          obtain rfl := h1 (by omega)
          obtain rfl := h2 (by omega)
          simp only [decodeN]
          rw [if_neg ‹_›, if_neg (by omega), if_pos (by omega), if_pos ‹_›]
        · cases h; omega
      · split at h
        · split at h
          · cases h
            obtain rfl := h1 (by omega)
            obtain rfl := h2 (by omega)
            obtain rfl := h3 (by omega)
            simp only [decodeN]
            rw [if_neg ‹_›, if_neg (by omega), if_neg (by omega), if_pos (by omega), if_pos ‹_›]
          · cases h; omega
        · cases h; omega

def lengthN (n b0 b1 b2 b3 : Nat) : Nat :=
  if b0 < 128 then 1
  else if 194 ≤ b0 ∧ b0 < 224 ∧ 1 < n ∧ 128 ≤ b1 ∧ b1 < 192 then 2
  else if 224 ≤ b0 ∧ b0 < 240 ∧ (1 < n ∧ 128 ≤ b1 ∧ b1 < 192) ∧ (2 < n ∧ 128 ≤ b2 ∧ b2 < 192) then
    (if (b0 = 224 ∧ b1 < 160) ∨ (b0 = 237 ∧ 160 ≤ b1) then 0 else 3)
  else if 240 ≤ b0 ∧ b0 < 245 ∧ (1 < n ∧ 128 ≤ b1 ∧ b1 < 192) ∧ (2 < n ∧ 128 ≤ b2 ∧ b2 < 192) ∧ (3 < n ∧ 128 ≤ b3 ∧ b3 < 192) then
    (if (b0 = 240 ∧ b1 < 144) ∨ (b0 = 244 ∧ 144 ≤ b1) then 0 else 4)
  else 0

set_option maxRecDepth 100000 in
set_option maxHeartbeats 4000000 in
theorem lengthN_eq (n b0 b1 b2 b3 : Nat) (h0 : b0 < 256) (h1 : b1 < 256) (h2 : b2 < 256) (h3 : b3 < 256) :
    lengthN n b0 b1 b2 b3 = if (decodeN n b0 b1 b2 b3).2 = 1 ∧ 128 ≤ b0 then 0 else (decodeN n b0 b1 b2 b3).2 := by
  unfold lengthN decodeN
  repeat' split
  all_goals first | rfl | (exfalso; omega) | (simp only at *; omega)

/-! ### Runes one behind the other -/
def Bad (s : ByteArray) (i : Nat) : Prop := (dec s i).2 = 1 ∧ 128 ≤ bat s i
instance (s : ByteArray) (i : Nat) : Decidable (Bad s i) := inferInstanceAs (Decidable (_ ∧ _))

theorem dec_pos (s : ByteArray) (i : Nat) : 1 ≤ (dec s i).2 := by
  rw [dec_eq]
  rcases decodeN_cases (s.size - i) (bat s i) (bat s (i + 1)) (bat s (i + 2)) (bat s (i + 3)) (bat_lt _ _) with ⟨_, h⟩ | ⟨_, h⟩ | h
  · rw [h]; exact Nat.le_refl _
  · rw [h]; exact Nat.le_refl _
  · omega
theorem dec_le {s : ByteArray} {i : Nat} (hi : i < s.size) : i + (dec s i).2 ≤ s.size := by
  rw [dec_eq]
  rcases decodeN_cases (s.size - i) (bat s i) (bat s (i + 1)) (bat s (i + 2)) (bat s (i + 3)) (bat_lt _ _) with ⟨_, h⟩ | ⟨_, h⟩ | h
  · rw [h]; simp only; omega
  · rw [h]; simp only; omega
  · omega

inductive Scan (s : ByteArray) : Nat → Option Nat → Prop
  | done (i : Nat) (h : i = s.size) : Scan s i none
  | bad (i : Nat) (h : i < s.size) (hb : Bad s i) : Scan s i (some i)
  | step (i : Nat) (r : Option Nat) (h : i < s.size) (hb : ¬ Bad s i) (k : Scan s (i + (dec s i).2) r) : Scan s i r

theorem scan_ex (s : ByteArray) : ∀ (n i : Nat), s.size - i ≤ n → i ≤ s.size → ∃ r, Scan s i r := by
  intro n
  induction n with
  | zero => intro i h hi; exact ⟨none, .done i (by omega)⟩
  | succ n ih =>
    intro i h hi
    by_cases he : i = s.size
    · exact ⟨none, .done i he⟩
    · by_cases hb : Bad s i
      · exact ⟨some i, .bad i (by omega) hb⟩
      · obtain ⟨r, hr⟩ := ih (i + (dec s i).2) (by have := dec_pos s i; omega) (dec_le (by omega))
        exact ⟨r, .step i r (by omega) hb hr⟩
theorem scan_le {s : ByteArray} {i : Nat} {r : Option Nat} (h : Scan s i r) : i ≤ s.size := by cases h <;> omega
theorem scan_some {s : ByteArray} {i a : Nat} {r : Option Nat} (h : Scan s i r) (hr : r = some a) : i ≤ a ∧ a < s.size := by
  induction h with
  | done i h => cases hr
  | bad i h hb => cases hr; exact ⟨Nat.le_refl _, h⟩
  | step i r h hb k ih => have := ih hr; omega

/-- Two texts that read alike at a rune. -/
theorem dec_loc {s t : ByteArray} {i j : Nat} (hi : i < s.size) (hb : ¬ Bad s i) (hn : j + (dec s i).2 ≤ t.size) (hbytes : ∀ k, k < (dec s i).2 → bat t (j + k) = bat s (i + k)) : dec t j = dec s i ∧ ¬ Bad t j := by
  have hp := dec_pos s i
  have h0 : bat t j = bat s i := by have := hbytes 0 (by omega); simpa using this
  have e : dec t j = dec s i := by
    rw [dec_eq t j, h0]
    have hd : decodeN (s.size - i) (bat s i) (bat s (i + 1)) (bat s (i + 2)) (bat s (i + 3)) = ((dec s i).1, (dec s i).2) := by rw [← dec_eq]
    rw [decodeN_loc hd (by unfold Bad at hb; exact hb) (n' := t.size - j) (by omega) (fun h => hbytes 1 (by omega)) (fun h => hbytes 2 (by omega)) (fun h => hbytes 3 (by omega))]
  exact ⟨e, by unfold Bad at *; rw [e, h0]; exact hb⟩

theorem bat_extract {s : ByteArray} {n k : Nat} (hn : n ≤ s.size) (hk : k < n) : bat (s.extract 0 n) k = bat s k := by
  unfold bat
  simp only [get_data]
  have h1 : k < (s.extract 0 n).data.size := by
    have : (s.extract 0 n).size = n := by simp [ByteArray.size_extract]; omega
    show k < (s.extract 0 n).size
    omega
  have h2 : k < s.data.size := by show k < s.size; omega
  rw [getElem!_pos _ k h1, getElem!_pos _ k h2]
  simp [ByteArray.data_extract]
theorem bat_extract2 {s : ByteArray} {i k : Nat} (hk : i + k < s.size) : bat (s.extract i s.size) k = bat s (i + k) := by
  unfold bat
  simp only [get_data]
  have h1 : k < (s.extract i s.size).data.size := by
    have : (s.extract i s.size).size = s.size - i := by simp [ByteArray.size_extract]
    show k < (s.extract i s.size).size
    omega
  have h2 : i + k < s.data.size := hk
  rw [getElem!_pos _ k h1, getElem!_pos _ (i + k) h2]
  simp [ByteArray.data_extract]
theorem bat_out {s : ByteArray} {k : Nat} (h : s.size ≤ k) : bat s k = 0 := by
  unfold bat
  simp only [get_data]
  have : ¬ k < s.data.size := by show ¬ k < s.size; omega
  rw [getElem!_neg _ k this]
  rfl
theorem bat_extract3 (s : ByteArray) (i k : Nat) (hi : i ≤ s.size) : bat (s.extract i s.size) k = bat s (i + k) := by
  by_cases h : i + k < s.size
  · exact bat_extract2 h
  · rw [bat_out (s := s) (by omega), bat_out]
    simp [ByteArray.size_extract]; omega
theorem dec_extract {s : ByteArray} {i : Nat} (hi : i ≤ s.size) : dec (s.extract i s.size) 0 = dec s i := by
  rw [dec_eq, dec_eq]
  have : (s.extract i s.size).size = s.size - i := by simp [ByteArray.size_extract]
  rw [this, bat_extract3 _ _ _ hi, bat_extract3 _ _ _ hi, bat_extract3 _ _ _ hi, bat_extract3 _ _ _ hi]
  simp
theorem bat_app_l {s t : ByteArray} {k : Nat} (h : k < s.size) : bat (s ++ t) k = bat s k := by
  unfold bat
  simp only [get_data]
  have h1 : k < (s ++ t).data.size := by show k < (s ++ t).size; rw [ByteArray.size_append]; omega
  have h2 : k < s.data.size := h
  rw [getElem!_pos _ k h1, getElem!_pos _ k h2]
  simp [ByteArray.data_append, Array.getElem_append, h2, h]
theorem bat_app_r {s t : ByteArray} (k : Nat) : bat (s ++ t) (s.size + k) = bat t k := by
  by_cases h : k < t.size
  · unfold bat
    simp only [get_data]
    have h1 : s.size + k < (s ++ t).data.size := by show s.size + k < (s ++ t).size; rw [ByteArray.size_append]; omega
    have h2 : k < t.data.size := h
    rw [getElem!_pos (s ++ t).data (s.size + k) h1, getElem!_pos t.data k h2]
    have h3 : ¬ s.size + k < s.data.size := by show ¬ s.size + k < s.size; omega
    simp [ByteArray.data_append, Array.getElem_append, h3]
  · rw [bat_out (by rw [ByteArray.size_append]; omega), bat_out (by omega)]

/-- A prefix up to a fault has none. -/
theorem scan_prefix {s : ByteArray} {i a : Nat} {r : Option Nat} (h : Scan s i r) (hr : r = some a) : Scan (s.extract 0 a) i none := by
  have ha := scan_some h hr
  have hsz : (s.extract 0 a).size = a := by simp [ByteArray.size_extract]; omega
  induction h with
  | done i h => cases hr
  | bad i h hb => cases hr; exact .done _ hsz.symm
  | step i r h hb k ih =>
    have := scan_some k hr
    have hp := dec_pos s i
    obtain ⟨e, hnb⟩ := dec_loc (t := s.extract 0 a) (j := i) h hb (by rw [hsz]; omega) (fun k hk => bat_extract (by omega) (by omega))
    refine .step i none (by rw [hsz]; omega) hnb ?_
    rw [e]
    exact ih hr this

theorem scan_behind {s t : ByteArray} {j : Nat} {r : Option Nat} (h : Scan t j r) : Scan (s ++ t) (s.size + j) (r.map fun a => s.size + a) := by
  have hd : ∀ i, dec (s ++ t) (s.size + i) = dec t i := fun i => by
    rw [dec_eq, dec_eq, ByteArray.size_append, show s.size + t.size - (s.size + i) = t.size - i by omega, bat_app_r, Nat.add_assoc, Nat.add_assoc, Nat.add_assoc, bat_app_r, bat_app_r, bat_app_r]
  have hB : ∀ i, Bad (s ++ t) (s.size + i) ↔ Bad t i := fun i => by unfold Bad; rw [hd, bat_app_r]
  induction h with
  | done i h => exact .done _ (by rw [ByteArray.size_append, h])
  | bad i h hb => exact .bad _ (by rw [ByteArray.size_append]; omega) ((hB i).2 hb)
  | step i r h hb k ih =>
    refine .step _ _ (by rw [ByteArray.size_append]; omega) (fun x => hb ((hB i).1 x)) ?_
    rw [hd, Nat.add_assoc]
    exact ih

theorem scan_join {s t : ByteArray} {i : Nat} {r r' : Option Nat} (h : Scan s i r) (hr : r = none) (ht : Scan t 0 r') : Scan (s ++ t) i (r'.map fun a => s.size + a) := by
  induction h with
  | done i h => subst h; exact scan_behind ht
  | bad i h hb => cases hr
  | step i r h hb k ih =>
    obtain ⟨e, hnb⟩ := dec_loc (t := s ++ t) (j := i) h hb (by rw [ByteArray.size_append]; have := dec_le h; omega) (fun k hk => bat_app_l (by have := dec_le h; omega))
    refine .step i _ (by rw [ByteArray.size_append]; omega) hnb ?_
    rw [e]
    exact ih hr

/-! ### Places -/
def place (s : ByteArray) : Nat → Nat × Nat
  | 0 => (1, 1)
  | i + 1 => if bat s i = 10 then ((place s i).1 + 1, 1) else if 128 ≤ bat s i ∧ bat s i < 192 then place s i else ((place s i).1, (place s i).2 + 1)

theorem place_le (s : ByteArray) : ∀ i, (place s i).1 ≤ i + 1 ∧ (place s i).2 ≤ i + 1 := by
  intro i
  induction i with
  | zero => exact ⟨Nat.le_refl _, Nat.le_refl _⟩
  | succ i ih =>
    simp only [place]
    split
    · simp only; omega
    · split
      · omega
      · simp only; omega

theorem place_tail {s : ByteArray} {i : Nat} : ∀ m, (∀ k, k < m → 128 ≤ bat s (i + k) ∧ bat s (i + k) < 192) → place s (i + m) = place s i := by
  intro m
  induction m with
  | zero => intro _; rfl
  | succ m ih =>
    intro h
    have hm := h m (by omega)
    rw [← Nat.add_assoc]
    simp only [place]
    rw [if_neg (by omega), if_pos hm, ih fun k hk => h k (by omega)]

theorem place_rune {s : ByteArray} {i : Nat} (hi : i < s.size) (hb : ¬ Bad s i) :
    place s (i + (dec s i).2) = (if (dec s i).1 = 10 then ((place s i).1 + 1, 1) else ((place s i).1, (place s i).2 + 1)) := by
  have hd := dec_eq s i
  rcases decodeN_cases (s.size - i) (bat s i) (bat s (i + 1)) (bat s (i + 2)) (bat s (i + 3)) (bat_lt _ _) with ⟨h0, h⟩ | ⟨h0, h⟩ | h
  · rw [h] at hd
    rw [hd]
    simp only [place]
    split
    · rfl
    · rw [if_neg (by omega)]
  · rw [h] at hd
    exact absurd ⟨by rw [hd], h0⟩ hb
  · rw [← hd] at h
    obtain ⟨h1, h2, h3, h4, h5, h6, h7, h8⟩ := h
    obtain ⟨m, hm⟩ : ∃ m, (dec s i).2 = m + 1 := ⟨(dec s i).2 - 1, by omega⟩
    rw [hm, Nat.add_comm m 1, ← Nat.add_assoc, place_tail m ?_]
    · simp only [place]
      rw [if_neg (by omega), if_neg (by omega), if_neg (by omega)]
    · intro k hk
      rcases (show k = 0 ∨ k = 1 ∨ k = 2 by omega) with rfl | rfl | rfl
      · have := bat_lt s (i + 1); simp only [Nat.add_zero]; omega
      · have := h7 (by omega); rw [show i + 1 + 1 = i + 2 by omega]; omega
      · have := h8 (by omega); rw [show i + 1 + 2 = i + 3 by omega]; omega

/-! ### Names -/
def okAt (s : ByteArray) (q : Nat) (i : Nat) : Bool := (decide (97 ≤ bat s i) && decide (bat s i ≤ 122)) || (decide (i ≠ 0) && (decide (bat s i = q) || (decide (48 ≤ bat s i) && decide (bat s i ≤ 57))))
def allOk (s : ByteArray) (q : Nat) : Nat → Nat → Bool
  | 0, _ => true
  | m + 1, i => okAt s q i && allOk s q m (i + 1)
def wordB (s : ByteArray) (q : Nat) : Bool := decide (1 ≤ s.size) && decide (s.size ≤ 32) && allOk s q s.size 0

end Go.Proofs.YtcgepgahgihojaaDoor
