/- LexJoins: what the plain lexer answers to what is joined. -/
import Derived.Test.YtigdijdpggjpiaaDoorC
namespace Go.Proofs.YtigdijdpggjpiaaDoor
open Go.St Go.Lib
set_option linter.unusedVariables false
set_option linter.unusedSimpArgs false

/-! ### Behind a list comes a '<' or nothing -/
def Stop (X : List UInt8) : Prop := X = [] ∨ ∃ W, X = 60 :: W
theorem pre_stop {X : List UInt8} (hX : Stop X) {w : List UInt8} (hw : (60 : UInt8) ∉ w) (l : List UInt8) : pre w (l ++ X) = pre w l := by
  rcases hX with rfl | ⟨W, rfl⟩
  · rw [List.append_nil]
  · unfold pre
    induction w generalizing l with
    | nil => cases l <;> rfl
    | cons c w ih =>
      have hc : c ≠ 60 := fun h => hw (by rw [h]; exact List.mem_cons_self)
      have hw' : (60 : UInt8) ∉ w := fun h => hw (List.mem_cons_of_mem _ h)
      cases l with
      | nil => simp [List.isPrefixOf, hc]
      | cons d l => simp only [List.cons_append, List.isPrefixOf, ih hw']
theorem nmAt_stop {X : List UInt8} (hX : Stop X) (l : List UInt8) : ∀ f, nmAt f (l ++ X) = nmAt f l := by
  rcases hX with rfl | ⟨W, rfl⟩
  · intro f; rw [List.append_nil]
  · induction l with
    | nil =>
      intro f
      have h1 : letter 60 = false := rfl
      have h2 : inner 60 = false := rfl
      simp [nmAt, h1, h2]
    | cons c l ih => intro f; simp only [List.cons_append, nmAt, ih]
theorem nm_stop {X : List UInt8} (hX : Stop X) (l : List UInt8) : nm (l ++ X) = nm l := by rw [← nmAt_true, ← nmAt_true, nmAt_stop hX]
theorem bl_stop {X : List UInt8} (hX : Stop X) (l : List UInt8) : bl (l ++ X) = bl l := by
  rcases hX with rfl | ⟨W, rfl⟩
  · rw [List.append_nil]
  · unfold bl
    induction l with
    | nil =>
      have h1 : blank 60 = false := rfl
      simp [h1]
    | cons c l ih =>
      simp only [List.cons_append, List.takeWhile_cons]
      split <;> simp [ih]
theorem txN_stop {X : List UInt8} (hX : Stop X) (l : List UInt8) : txN (l ++ X) = txN l := by
  induction l with
  | nil =>
    rcases hX with rfl | ⟨W, rfl⟩
    · rfl
    · simp [txN]
  | cons c l ih =>
    have := pre_stop hX (w := [123, 123]) (by decide) (c :: l)
    rw [List.cons_append] at this
    simp only [List.cons_append, txN, this, ih]
theorem index_stop {X : List UInt8} (hX : Stop X) {w : List UInt8} (hw : (60 : UInt8) ∉ w) (l : List UInt8) (h : ¬ Lib.index l w < 0) : Lib.index (l ++ X) w = Lib.index l w := by
  induction l with
  | nil =>
    simp only [Lib.index] at h
    cases w with
    | nil => cases X <;> simp [Lib.index]
    | cons => simp at h
  | cons b l ih =>
    have hge := Lib.index_ge l w
    have hp := pre_stop hX hw (b :: l)
    unfold pre at hp
    rw [List.cons_append] at hp
    simp only [List.cons_append, Lib.index, hp] at h ⊢
    by_cases h0 : w.isPrefixOf (b :: l) = true
    · simp [h0]
    · simp only [h0, Bool.false_eq_true, if_false] at h ⊢
      by_cases h1 : Lib.index l w = -1
      · simp [h1] at h
      · rw [ih (by omega)]
theorem indexByte_stop {X : List UInt8} (l : List UInt8) (c : UInt8) (h : ¬ Lib.indexByte l c < 0) : Lib.indexByte (l ++ X) c = Lib.indexByte l c := by
  induction l with
  | nil => simp [Lib.indexByte] at h
  | cons b l ih =>
    have hge := Lib.indexByte_ge l c
    simp only [List.cons_append, Lib.indexByte] at h ⊢
    by_cases h0 : (b == c) = true
    · simp [h0]
    · simp only [h0, Bool.false_eq_true, if_false] at h ⊢
      by_cases h1 : Lib.indexByte l c = -1
      · simp [h1] at h
      · rw [ih (by omega)]
theorem badN_stop {X : List UInt8} (hX : Stop X) (l : List UInt8) : badN (l ++ X) = badN l := by unfold badN; rw [nm_stop hX]
theorem plM_ok {sub : List UInt8} {f p f' p' : Nat} {q : Bool} {t : List UInt8} (h : plM sub f p q = .ok t) : plM sub f' p' q = .ok t := by
  unfold plM at h ⊢
  split at h
  · cases h
  · split at h
    · cases h
    · cases h
      rename_i hx hc
      rw [if_neg hc]

/-! ### One list within another -/
structure View (L L' : List UInt8) (off : Nat) (X : List UInt8) : Prop where
  stop : Stop X
  at_ : ∀ a, a ≤ L.length → L'.drop (off + a) = L.drop a ++ X
def sh (off : Nat) (t : Tk) : Tk := ⟨t.kind, t.name, t.text, off + t.at_⟩
def shs (off : Nat) (r : List Tk × Nat) : List Tk × Nat := (r.1.map (sh off), off + r.2)

section
variable {L L' X : List UInt8} {off : Nat} (v : View L L' off X)
include v
theorem View.pre {a : Nat} (ha : a ≤ L.length) {w : List UInt8} (hw : (60 : UInt8) ∉ w) : pre w (L'.drop (off + a)) = pre w (L.drop a) := by rw [v.at_ a ha, pre_stop v.stop hw]
theorem View.take {a k : Nat} (h : a + k ≤ L.length) : (L'.drop (off + a)).take k = (L.drop a).take k := by
  rw [v.at_ a (by omega), List.take_append_of_le_length (by rw [List.length_drop]; omega)]

theorem View.attr {a : Nat} (ha : a ≤ L.length) {r : List Tk × Nat} (h : attrM L a = .ok r) : attrM L' (off + a) = .ok (shs off r) := by
  have hcol : colon L' (off + a) = colon L a := by unfold colon; rw [v.pre ha (by decide)]
  unfold attrM at h ⊢
  have hc : a + colon L a ≤ L.length := by
    unfold colon
    split
    · rename_i hp
      exact pre1 hp
    · omega
  rw [hcol, show off + a + colon L a = off + (a + colon L a) by omega]
  obtain ⟨a1, ha1⟩ : ∃ a1, a1 = a + colon L a := ⟨_, rfl⟩
  rw [← ha1] at h hc ⊢
  rw [v.at_ a1 hc, badN_stop v.stop]
  split at h
  · cases h
  · rename_i hb
    rw [if_neg hb]
    obtain ⟨h1, _, h2⟩ := badN_false (by simpa using hb)
    rw [List.length_drop] at h2
    have hnm : nm (L'.drop (off + a1)) = nm (L.drop a1) := by rw [v.at_ a1 hc, nm_stop v.stop]
    unfold attr2 at h ⊢
    rw [hnm, show off + a1 + nm (L.drop a1) = off + (a1 + nm (L.drop a1)) by omega]
    rw [v.take (by omega)]
    obtain ⟨a2, ha2⟩ : ∃ a2, a2 = a1 + nm (L.drop a1) := ⟨_, rfl⟩
    rw [← ha2] at h ⊢
    rw [v.pre (by omega) (by decide)]
    split at h
    · cases h
    · rename_i h61
      rw [if_neg h61]
      have e1 := pre1 (by simpa using h61)
      rw [show off + a2 + 1 = off + (a2 + 1) by omega, v.pre e1 (by decide)]
      split at h
      · cases h
      · rename_i h34
        rw [if_neg h34]
        have e2 := pre1 (by simpa using h34)
        rw [show off + (a2 + 1) + 1 = off + (a2 + 1 + 1) by omega]
        split at h
        · cases h
        · rename_i hi
          have hib : Lib.indexByte (L'.drop (off + (a2 + 1 + 1))) 34 = Lib.indexByte (L.drop (a2 + 1 + 1)) 34 := by
            rw [v.at_ _ e2]
            exact indexByte_stop _ _ hi
          have hl := indexByte_lt hi
          rw [List.length_drop] at hl
          rw [hib, if_neg hi, v.take (by omega)]
          split at h
          · cases h
          · rename_i t ht
            rw [plM_ok ht]
            cases h
            simp only [shs, List.map_cons, List.map_nil, sh, Nat.add_assoc]
theorem View.attrs : ∀ {m m' a : Nat}, m ≤ m' → a ≤ L.length → ∀ {r : List Tk × Nat}, attrsM m L a = .ok r → attrsM m' L' (off + a) = .ok (shs off r) := by
  intro m
  induction m with
  | zero => intro m' a _ _ r h; cases h
  | succ m ih =>
    intro m' a hm ha r h
    obtain ⟨m', rfl⟩ : ∃ k, m' = k + 1 := ⟨m' - 1, by omega⟩
    have hbl : bl (L'.drop (off + a)) = bl (L.drop a) := by rw [v.at_ a ha, bl_stop v.stop]
    have hb := bl_le (L.drop a)
    rw [List.length_drop] at hb
    simp only [attrsM] at h ⊢
    rw [hbl, show off + a + bl (L.drop a) = off + (a + bl (L.drop a)) by omega]
    obtain ⟨a1, ha1⟩ : ∃ a1, a1 = a + bl (L.drop a) := ⟨_, rfl⟩
    rw [← ha1] at h ⊢
    rw [v.pre (by omega) (by decide), v.pre (by omega) (by decide)]
    split at h
    · rename_i h47
      have e1 := pre1 h47
      rw [if_pos h47, show off + a1 + 1 = off + (a1 + 1) by omega, v.pre e1 (by decide)]
      split at h
      · rename_i h62
        rw [if_pos h62]
        cases h
        simp only [shs, List.map_cons, List.map_nil, sh, Nat.add_assoc]
      · cases h
    · rename_i h47
      rw [if_neg h47]
      split at h
      · rename_i h62
        rw [if_pos h62]
        cases h
        simp only [shs, List.map_cons, List.map_nil, sh, Nat.add_assoc]
      · rename_i h62
        rw [if_neg h62]
        split at h
        · cases h
        · rename_i h0
          rw [if_neg h0]
          cases hat : attrM L a1 with
          | error e => rw [hat] at h; cases h
          | ok x =>
            rw [hat] at h
            have h1 := v.attr (by omega) hat
            have h2 := attr_lt hat
            rw [h1]
            cases hz : attrsM m L x.2 with
            | error e => simp only [hz] at h; cases h
            | ok z =>
              simp only [hz] at h
              have h3 := ih (m' := m') (by omega) (by omega) hz
              simp only [shs] at h3 ⊢
              rw [h3]
              cases h
              simp only [List.map_append]
theorem View.len (hl : L ≠ [] ∨ X ≠ []) : off + L.length ≤ L'.length := by
  have := congrArg List.length (v.at_ 0 (Nat.zero_le _))
  simp only [List.length_drop, Nat.add_zero, List.length_append, Nat.sub_zero] at this
  have h0 : 0 < L.length + X.length := by
    rcases hl with h | h
    · have := List.length_pos_iff.2 h; omega
    · have := List.length_pos_iff.2 h; omega
  omega
theorem View.step {a : Nat} (ha : a < L.length) {r : List Tk × Nat} (h : stepM L a = .ok r) : stepM L' (off + a) = .ok (shs off r) := by
  have hlen := v.len (.inl (by rintro rfl; simp at ha))
  have h60 : Go.Proofs.YtigdijdpggjpiaaDoor.pre [60] (L'.drop (off + a)) = Go.Proofs.YtigdijdpggjpiaaDoor.pre [60] (L.drop a) := by
    obtain ⟨c, r, hc⟩ : ∃ c r, L.drop a = c :: r := ⟨_, _, List.drop_eq_getElem_cons ha⟩
    rw [v.at_ a (by omega), hc]
    simp [Go.Proofs.YtigdijdpggjpiaaDoor.pre, List.isPrefixOf]
  unfold stepM at h ⊢
  rw [v.pre (by omega) (by decide), h60]
  split at h
  · rename_i hp
    have e1 := pre_drop hp
    simp only [List.length_cons, List.length_nil, List.cons_ne_nil, or_false] at e1
    rw [if_pos hp]
    unfold holeM at h ⊢
    rw [show off + a + 2 = off + (a + 2) by omega]
    split at h
    · cases h
    · rename_i hi
      have hib : Lib.index (L'.drop (off + (a + 2))) [125, 125] = Lib.index (L.drop (a + 2)) [125, 125] := by
        rw [v.at_ _ (by omega)]
        exact index_stop v.stop (by decide) _ hi
      have hl := index_lt hi
      rw [List.length_drop] at hl
      rw [hib, if_neg hi, v.take (by simp at hl; omega)]
      cases h
      simp only [shs, List.map_cons, List.map_nil, sh, Nat.add_assoc]
  · rename_i hp
    rw [if_neg hp]
    split at h
    · rename_i hq
      rw [if_pos hq]
      unfold tagM at h ⊢
      rw [show off + a + 1 = off + (a + 1) by omega, show off + a + 2 = off + (a + 2) by omega, v.pre (by omega) (by decide)]
      split at h
      · rename_i h47
        have e1 := pre1 h47
        rw [if_pos h47, v.at_ _ (by omega), badN_stop v.stop]
        split at h
        · cases h
        · rename_i hb
          rw [if_neg hb]
          obtain ⟨h1, _, h2⟩ := badN_false (by simpa using hb)
          rw [List.length_drop] at h2
          have hnm : nm (L'.drop (off + (a + 2))) = nm (L.drop (a + 2)) := by rw [v.at_ _ (by omega), nm_stop v.stop]
          unfold close2 at h ⊢
          rw [hnm, show off + (a + 2) + nm (L.drop (a + 2)) = off + (a + 2 + nm (L.drop (a + 2))) by omega, v.take (by omega)]
          obtain ⟨a2, ha2⟩ : ∃ a2, a2 = a + 2 + nm (L.drop (a + 2)) := ⟨_, rfl⟩
          rw [← ha2] at h ⊢
          have hbl : bl (L'.drop (off + a2)) = bl (L.drop a2) := by rw [v.at_ _ (by omega), bl_stop v.stop]
          have hle := bl_le (L.drop a2)
          rw [List.length_drop] at hle
          rw [hbl, show off + a2 + bl (L.drop a2) = off + (a2 + bl (L.drop a2)) by omega, v.pre (by omega) (by decide)]
          split at h
          · rename_i h62
            rw [if_pos h62]
            cases h
            simp only [shs, List.map_cons, List.map_nil, sh, Nat.add_assoc]
          · cases h
      · rename_i h47
        rw [if_neg h47, v.at_ _ (by omega), badN_stop v.stop]
        split at h
        · cases h
        · rename_i hb
          rw [if_neg hb]
          obtain ⟨h1, _, h2⟩ := badN_false (by simpa using hb)
          rw [List.length_drop] at h2
          have hnm : nm (L'.drop (off + (a + 1))) = nm (L.drop (a + 1)) := by rw [v.at_ _ (by omega), nm_stop v.stop]
          unfold open2 at h ⊢
          rw [hnm, show off + (a + 1) + nm (L.drop (a + 1)) = off + (a + 1 + nm (L.drop (a + 1))) by omega, v.take (by omega)]
          split at h
          · cases h
          · rename_i z hz
            have := v.attrs (m' := L'.length + 1) (by omega) (by omega) hz
            rw [this]
            cases h
            simp only [shs, List.map_cons, sh]
    · rename_i hq
      rw [if_neg hq]
      have htx : txN (L'.drop (off + a)) = txN (L.drop a) := by rw [v.at_ _ (by omega), txN_stop v.stop]
      have hle := txN_le (L.drop a)
      rw [List.length_drop] at hle
      unfold textM at h ⊢
      rw [htx, v.take (by omega)]
      split at h
      · cases h
      · rename_i t ht
        rw [plM_ok ht]
        cases h
        simp only [shs, List.map_cons, List.map_nil, sh, Nat.add_assoc]
end

theorem lexM_mono {L : List UInt8} : ∀ {m m' a : Nat}, m ≤ m' → ∀ {z : List Tk}, lexM m L a = .ok z → lexM m' L a = .ok z := by
  intro m
  induction m with
  | zero => intro m' a _ z h; cases h
  | succ m ih =>
    intro m' a hm z h
    obtain ⟨m', rfl⟩ : ∃ k, m' = k + 1 := ⟨m' - 1, by omega⟩
    simp only [lexM] at h ⊢
    split at h
    · rename_i h0
      rw [if_pos h0]
      exact h
    · rename_i h0
      rw [if_neg h0]
      cases hs : stepM L a with
      | error e => rw [hs] at h; cases h
      | ok x =>
        rw [hs] at h
        cases hz : lexM m L x.2 with
        | error e => simp only [hz] at h; cases h
        | ok y =>
          simp only [hz] at h
          simp only [ih (m' := m') (by omega) hz]
          exact h
/-! ### More fuel -/
theorem attrsM_fix {L : List UInt8} : ∀ {m m' a : Nat}, L.length < a + m → L.length < a + m' → a ≤ L.length → attrsM m L a = attrsM m' L a := by
  intro m
  induction m with
  | zero => intro m' a h1 h2 h3; omega
  | succ m ih =>
    intro m' a h1 h2 h3
    obtain ⟨m', rfl⟩ : ∃ k, m' = k + 1 := ⟨m' - 1, by omega⟩
    have hb := bl_le (L.drop a)
    rw [List.length_drop] at hb
    simp only [attrsM]
    cases ha : attrM L (a + bl (L.drop a)) with
    | error e => rfl
    | ok x =>
      have h4 := attr_lt ha
      simp only [ih (m' := m') (a := x.2) (by omega) (by omega) (by omega)]
theorem lexM_fix {L : List UInt8} : ∀ {m m' a : Nat}, L.length < a + m → L.length < a + m' → a ≤ L.length → lexM m L a = lexM m' L a := by
  intro m
  induction m with
  | zero => intro m' a h1 h2 h3; omega
  | succ m ih =>
    intro m' a h1 h2 h3
    obtain ⟨m', rfl⟩ : ∃ k, m' = k + 1 := ⟨m' - 1, by omega⟩
    simp only [lexM]
    split
    · rfl
    · cases ha : stepM L a with
      | error e => rfl
      | ok x =>
        have h4 := step_lt (by omega) ha
        simp only [ih (m' := m') (a := x.2) (by omega) (by omega) (by omega)]
theorem View.lex {L L' X : List UInt8} {off : Nat} (v : View L L' off X) {y : List Tk} {k : Nat} (hy : lexM k L' (off + L.length) = .ok y) : ∀ {m a : Nat}, a ≤ L.length → ∀ {z : List Tk}, lexM m L a = .ok z → lexM (k + m) L' (off + a) = .ok (z.map (sh off) ++ y) := by
  intro m
  induction m with
  | zero => intro a _ z h; cases h
  | succ m ih =>
    intro a ha z h
    simp only [lexM] at h
    split at h
    · cases h
      rw [show a = L.length by omega]
      exact lexM_mono (by omega) hy
    · cases hs : stepM L a with
      | error e => rw [hs] at h; cases h
      | ok x =>
        rw [hs] at h
        have h1 := v.step (by omega) hs
        have h2 := step_lt (by omega) hs
        have hlen := v.len (.inl (by rintro rfl; simp at *))
        cases hz : lexM m L x.2 with
        | error e => simp only [hz] at h; cases h
        | ok w =>
          simp only [hz] at h
          have h3 := ih (by omega) hz
          cases h
          rw [show k + (m + 1) = (k + m) + 1 by omega]
          simp only [lexM]
          rw [if_neg (by omega), h1]
          simp only [shs]
          rw [h3]
          simp only [List.map_append, List.append_assoc]

def close : List UInt8 := [60, 47, 113, 62]
theorem join_lex {P R : List UInt8} {m k : Nat} {z y : List Tk} (hz : lexM m P 0 = .ok z) (hy : lexM k R 0 = .ok y) : lexM (0 + 1 + k + 1 + m) (P ++ (close ++ R)) 0 = .ok (z ++ (⟨8, [113], [], P.length⟩ :: y.map (sh (P.length + 4)))) := by
  have v1 : View P (P ++ (close ++ R)) 0 (close ++ R) := ⟨.inr ⟨[47, 113, 62] ++ R, rfl⟩, fun a ha => by rw [Nat.zero_add, List.drop_append_of_le_length ha]⟩
  have d : ∀ i, (P ++ (close ++ R)).drop (P.length + i) = (close ++ R).drop i := fun i => by rw [← List.drop_drop, List.drop_left]
  have v2 : View R (P ++ (close ++ R)) (P.length + 4) [] := ⟨.inl rfl, fun a ha => by rw [Nat.add_assoc, d, List.append_nil, show (close ++ R).drop (4 + a) = R.drop a by rw [show 4 + a = close.length + a from rfl, ← List.drop_drop, List.drop_left]]⟩
  have h0 : lexM (0 + 1) (P ++ (close ++ R)) (P.length + 4 + R.length) = .ok [] := by
    simp only [lexM]
    rw [if_pos (by simp [close]; omega)]
  have h2 := v2.lex h0 (Nat.zero_le _) hy
  rw [Nat.add_zero, List.append_nil] at h2
  have d0 : (P ++ (close ++ R)).drop P.length = 60 :: 47 :: 113 :: 62 :: R := d 0
  have d1 : (P ++ (close ++ R)).drop (P.length + 1) = 47 :: 113 :: 62 :: R := d 1
  have d2 : (P ++ (close ++ R)).drop (P.length + 2) = 113 :: 62 :: R := d 2
  have d3 : (P ++ (close ++ R)).drop (P.length + 2 + 1) = 62 :: R := d 3
  have n1 : nm (113 :: 62 :: R) = 1 := by
    have h1 : letter 113 = true := rfl
    have h2 : inner 62 = false := rfl
    simp [nm, h1, h2]
  have b1 : bl (62 :: R) = 0 := by
    have h1 : blank 62 = false := rfl
    simp [bl, h1]
  have hs : stepM (P ++ (close ++ R)) P.length = .ok ([⟨8, [113], [], P.length⟩], P.length + 4) := by
    unfold stepM tagM
    rw [d0, d1, d2]
    have p1 : pre [123, 123] (60 :: 47 :: 113 :: 62 :: R) = false := rfl
    have p2 : pre [60] (60 :: 47 :: 113 :: 62 :: R) = true := by simp [pre, List.isPrefixOf]
    have p3 : pre [47] (47 :: 113 :: 62 :: R) = true := by simp [pre, List.isPrefixOf]
    have p4 : badN (113 :: 62 :: R) = false := by unfold badN; rw [n1]; rfl
    have p5 : pre [62] (62 :: R) = true := by simp [pre, List.isPrefixOf]
    simp only [p1, p2, p3, p4, Bool.false_eq_true, if_false, if_true]
    unfold close2
    rw [d2, n1, d3, b1, Nat.add_zero, d3, if_pos p5]
    rfl
  have h1 : lexM (0 + 1 + k + 1) (P ++ (close ++ R)) (0 + P.length) = .ok (⟨8, [113], [], P.length⟩ :: y.map (sh (P.length + 4))) := by
    rw [Nat.zero_add P.length]
    simp only [lexM]
    rw [if_neg (by simp [close]), hs]
    simp only [h2]
    rfl
  have := v1.lex h1 (Nat.zero_le _) hz
  have e : z.map (sh 0) = z := by
    rw [show sh 0 = id from funext fun t => by cases t; simp [sh], List.map_id]
  rwa [e, Nat.add_zero] at this
end Go.Proofs.YtigdijdpggjpiaaDoor
