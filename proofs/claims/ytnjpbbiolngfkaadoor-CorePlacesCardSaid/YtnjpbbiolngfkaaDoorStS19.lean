/- The machine's answers, by hand: what the laws use of it. -/
import Derived.Test.YtnjpbbiolngfkaaDoorStS18
namespace Go.St
set_option linter.unusedVariables false
set_option linter.unusedSimpArgs false

/-- The first n objects are as they were. -/
structure Keeps (n : Nat) (st st' : Sto) : Prop where
  len : st.length ≤ st'.length
  at_ : ∀ i, i < n → st'[i]? = st[i]?
theorem Keeps.refl (n : Nat) (st : Sto) : Keeps n st st := ⟨Nat.le_refl _, fun _ _ => rfl⟩
theorem Keeps.trans {n : Nat} {a b c : Sto} (h : Keeps n a b) (k : Keeps n b c) : Keeps n a c := ⟨Nat.le_trans h.len k.len, fun i hi => (k.at_ i hi).trans (h.at_ i hi)⟩
theorem Keeps.app {n : Nat} {st l : Sto} (h : n ≤ st.length) : Keeps n st (st ++ l) := ⟨by simp, fun i hi => List.getElem?_append_left (by omega)⟩
theorem Keeps.set {n : Nat} {st : Sto} {j : Nat} {o : Ob} (h : n ≤ j) : Keeps n st (st.set j o) := ⟨by simp, fun i hi => List.getElem?_set_ne (by omega)⟩

theorem gc_keep {x : AV} {st st' : Sto} (hs : x.strip st.length = x) (ho : x.old st.length = true) (hk : Keeps st.length st st') : gc st (.ret x, st') = (.ret x, st) := by
  have hst : st'.take st.length = st := by
    apply List.ext_getElem?
    intro i
    rw [List.getElem?_take]
    split
    · rename_i hi; exact hk.at_ i hi
    · rename_i hi; rw [List.getElem?_eq_none (by omega)]
  unfold gc
  rw [if_pos ⟨by simp only [Out.val, hs]; exact ho, hk.len, fun i hi => .inl (hk.at_ i hi)⟩]
  simp only [Out.map, hs, hst]

theorem idx_nat {j n : Nat} (h : j < n) : idx (j : Int) n = some j := by
  unfold idx
  rw [if_pos (by omega)]
  simp

theorem wrap64 {x : Int} (h0 : 0 ≤ x) (h : x < 9223372036854775808) : IntKind.wrap .i64 x = x := by
  simp [IntKind.wrap, IntKind.bits, IntKind.signed]
  omega

/-! ### Bytes -/
def bytesL (l : List UInt8) : List AV := l.map fun b => .int .u8 b.toNat

theorem textOf_bytesL : ∀ l : List UInt8, textOf (bytesL l) = some l := by
  intro l
  induction l with
  | nil => rfl
  | cons b r ih =>
    show (textOf (bytesL r)).bind _ = _
    rw [ih]
    simp

theorem byt_at {s : ByteArray} {j : Nat} (h : j < s.size) : ∃ c : UInt8, s.data.toList[j]? = some c ∧ byt s j = ((c.toNat : Nat) : Int) ∧ s.get! j = c := by
  have h' : j < s.data.size := h
  have h1 : s.data[j]! = s.data[j] := getElem!_pos s.data j h'
  exact ⟨s.data[j], by simp [h'], by simp [byt, ByteArray.get!, h1], by simp [ByteArray.get!, h1]⟩

/-- A slice that is made by appends alone holds these bytes; what it stands on is no older than n. -/
def BufA (n : Nat) (st : Sto) (x : AV) (acc : List UInt8) : Prop :=
  (x = .nils ∧ acc = []) ∨ ∃ i g, n ≤ i ∧ x = .is (bytesL acc) acc.length (.tip i g 1) ∧ st[i]? = some (.tip g)

theorem bufA_nil (n : Nat) (st : Sto) : BufA n st .nils [] := .inl ⟨rfl, rfl⟩

theorem bufA_add {n : Nat} {st : Sto} {x : AV} {acc new : List UInt8} {str : Bool} {y : AV} (h : BufA n st x acc) (hn : n ≤ st.length) (hy : tailOf str 1 st y = some (bytesL new, new.length)) (hl : acc.length + new.length ≤ 140737488355328) :
    ∃ x' st', appL false str 1 1 x y st = some (x', st') ∧ BufA n st' x' (acc ++ new) ∧ Keeps n st st' := by
  have hroom : ∀ k, k ≤ acc.length + new.length → room 1 k = true := fun k hk => by simp [room]; omega
  unfold appL
  simp only [hy, Option.bind_some]
  rcases h with ⟨rfl, rfl⟩ | ⟨i, g, hi, rfl, hst⟩
  · by_cases h0 : new.length = 0
    · have : new = [] := List.eq_nil_of_length_eq_zero h0
      subst this
      exact ⟨_, _, rfl, .inl ⟨rfl, rfl⟩, Keeps.refl n st⟩
    · simp only [h0, if_false, hroom new.length (by simp), if_true, Bool.false_eq_true]
      exact ⟨_, _, rfl, .inr ⟨st.length, 0, hn, by simp, by simp⟩, Keeps.app hn⟩
  · have hlen : (bytesL acc).length = acc.length * 1 := by simp [bytesL]
    simp only [hlen, true_and, hroom _ (Nat.le_refl _), if_true, hst]
    refine ⟨_, _, rfl, .inr ⟨i, g + 1, hi, by simp [bytesL], ?_⟩, Keeps.set hi⟩
    rw [List.getElem?_set_self (List.getElem?_eq_some_iff.1 hst).1]

theorem bufA_text {n : Nat} {st : Sto} {x : AV} {acc : List UInt8} (h : BufA n st x acc) : toText st x = some ⟨acc.toArray⟩ := by
  rcases h with ⟨rfl, rfl⟩ | ⟨i, g, hi, rfl, hst⟩
  · rfl
  · have hlen : (bytesL acc).length = acc.length * 1 := by simp [bytesL]
    simp only [toText, rowOf, hlen, if_true, Option.bind_some, textOf_bytesL]

theorem lit_byte (c : AV) (hc : c.isCell = true) (st : Sto) : litS false 1 1 (fillA (fun i => some (i * 1, 1)) [.int .u8 0] [(0, c)]) st = some (.is [c] 1 .full, st) := by
  have h1 : c.cells = [c] := avcells_one hc
  simp [fillA, h1, hc, litS, splice]

theorem tail_byte (c : UInt8) (st : Sto) : tailOf false 1 st (.is [.int .u8 ((c.toNat : Nat) : Int)] 1 .full) = some (bytesL [c], [c].length) := by
  simp [tailOf, rowOf, bytesL]
theorem tail_str (s : ByteArray) (st : Sto) : tailOf true 1 st (.str s) = some (bytesL s.data.toList, s.data.toList.length) := by
  simp [tailOf, bytesAV, bytesL]

end Go.St
