/- What the functions of layer 4 give. -/
import Derived.Test.YtjcpcglhjeoifaaDoorE
import Derived.Test.YtjcpcglhjeoifaaDoorStS20
namespace Go.Proofs.YtjcpcglhjeoifaaDoor
open Go.St
set_option linter.unusedVariables false
set_option linter.unusedSimpArgs false

/-- What stands for a byte. -/
def W (c : Int) (q : Bool) : ByteArray :=
  if c = 38 then ⟨#[38, 97, 109, 112, 59]⟩ else if c = 60 then ⟨#[38, 108, 116, 59]⟩ else if c = 62 then ⟨#[38, 103, 116, 59]⟩ else if c = 123 then ⟨#[38, 108, 98, 114, 97, 99, 101, 59]⟩
  else if c = 34 ∧ q = true then ⟨#[38, 113, 117, 111, 116, 59]⟩ else ⟨#[]⟩

theorem gcs (s : ByteArray) (st : Sto) : gc st (.ret (.str s), st) = (.ret (.str s), st) := gc_keep rfl rfl (Keeps.refl _ _)

theorem written (c : Int) (q : Bool) (st : Sto) : CallR ap 49 [.int .u8 c, .bool q] st = some (.ret (.str (W c q)), st) := by
  rw [html_written.call, html_written.b_eq]
  unfold W
  by_cases h1 : c = 38
  · simp [h1, gcs]
  by_cases h2 : c = 60
  · simp [h2, gcs]
  by_cases h3 : c = 62
  · simp [h3, gcs]
  by_cases h4 : c = 123
  · simp [h4, gcs]
  by_cases h5 : c = 34
  · cases q <;> simp [h5, gcs, html_written.p11_eq]
  · simp [h1, h2, h3, h4, h5, gcs, html_written.p11_eq]

/-- What stands for a byte, the byte itself where nothing does. -/
def E1 (q : Bool) (c : UInt8) : List UInt8 := if W c.toNat q = ⟨#[]⟩ then [c] else (W c.toNat q).data.toList
def esc (q : Bool) (l : List UInt8) : List UInt8 := l.flatMap (E1 q)

theorem W_size (c : Int) (q : Bool) : (W c q).size ≤ 8 := by
  unfold W
  repeat' split
  all_goals decide
theorem E1_len (q : Bool) (c : UInt8) : (E1 q c).length ≤ 8 := by
  unfold E1
  split
  · simp
  · have := W_size c.toNat q
    rw [Array.length_toList]
    exact this
theorem esc_len (q : Bool) : ∀ l : List UInt8, (esc q l).length ≤ 8 * l.length := by
  intro l
  induction l with
  | nil => simp [esc]
  | cons c r ih =>
    have := E1_len q c
    simp only [esc, List.flatMap_cons, List.length_append, List.length_cons] at ih ⊢
    omega
theorem esc_app (q : Bool) (a b : List UInt8) : esc q (a ++ b) = esc q a ++ esc q b := by simp [esc]
theorem esc_one (q : Bool) (c : UInt8) : esc q [c] = E1 q c := by simp [esc]

def mk (l : List UInt8) : ByteArray := ⟨l.toArray⟩
theorem mk_size (l : List UInt8) : (mk l).size = l.length := by simp [mk, ByteArray.size]
theorem mk_app (a b : List UInt8) : mk a ++ mk b = mk (a ++ b) := by
  apply ByteArray.ext
  simp [mk]
theorem mk_data (s : ByteArray) : mk s.data.toList = s := rfl
theorem mk_inj {a b : List UInt8} (h : mk a = mk b) : a = b := by
  have := congrArg (fun s => s.data.toList) h
  simpa [mk] using this
theorem size_list (s : ByteArray) : s.size = s.data.toList.length := by rw [Array.length_toList]; rfl

theorem take_succ' {l : List UInt8} {j : Nat} {c : UInt8} (h : l[j]? = some c) : l.take (j + 1) = l.take j ++ [c] := by
  rw [List.take_add_one, h]
  rfl

/-- The loop of html.escaped. -/
theorem escaped_loop (s : ByteArray) (q : Bool) (i : Nat) (hs : s.size ≤ 8388608) : ∀ (k j : Nat), j + k = s.size → ∀ st : Sto, st[i]? = some (.bld (mk (esc q (s.data.toList.take j)))) →
    html_escaped.p110100 s q i ((s.size : Nat) : Int) (j : Int) st = some ⟨.ret (.str (mk (esc q s.data.toList))), none, st.set i (.bld (mk (esc q s.data.toList)))⟩ := by
  have hset : ∀ (st : Sto) (o : Ob), st[i]? = some o → st.set i o = st := fun st o h => by
    apply List.ext_getElem?
    intro j
    by_cases hj : i = j
    · subst hj; rw [List.getElem?_set_self (List.getElem?_eq_some_iff.1 h).1, h]
    · rw [List.getElem?_set_ne hj]
  intro k
  induction k with
  | zero =>
    intro j hj st hst
    have hl : s.data.toList.take j = s.data.toList := List.take_of_length_le (by rw [← size_list]; omega)
    rw [hl] at hst
    rw [html_escaped.p110100_eq]
    have : ¬ ((j : Int) < ((s.size : Nat) : Int)) := by omega
    simp [this, primA, bldGet, hst, Out.on, hset st _ hst]
  | succ k ih =>
    intro j hj st hst
    have hjs : j < s.size := by omega
    obtain ⟨c, hc, hb, _⟩ := byt_at hjs
    rw [html_escaped.p110100_eq]
    have hlt : ((j : Int) < ((s.size : Nat) : Int)) := by omega
    have hacc : (mk (esc q (s.data.toList.take j))).size ≤ 8 * s.size := by
      rw [mk_size]
      have := esc_len q (s.data.toList.take j)
      rw [List.length_take, ← size_list] at this
      omega
    have hw : IntKind.wrap .i64 ((j : Int) + 1) = ((j + 1 : Nat) : Int) := by rw [wrap64 (by omega) (by omega)]; simp
    have hnext : ∀ t : ByteArray, t = mk (E1 q c) → mk (esc q (s.data.toList.take j)) ++ t = mk (esc q (s.data.toList.take (j + 1))) := by
      rintro t rfl
      rw [mk_app, take_succ' hc, esc_app, esc_one]
    have hgo : ∀ t : ByteArray, t = mk (E1 q c) → html_escaped.p110100111 s q i ((s.size : Nat) : Int) (j : Int) (st.set i (.bld (mk (esc q (s.data.toList.take j)) ++ t))) = some ⟨.ret (.str (mk (esc q s.data.toList))), none, st.set i (.bld (mk (esc q s.data.toList)))⟩ := by
      intro t ht
      rw [html_escaped.p110100111_eq, hw, hnext t ht]
      rw [ih (j + 1) (by omega) _ (by rw [List.getElem?_set_self (List.getElem?_eq_some_iff.1 hst).1])]
      rw [List.set_set]
    simp only [hlt, decide_true, cond_true, idx_nat hjs, Option.bind_some, written, Out.on, asS]
    rw [hb]
    by_cases hW : W c.toNat q = ⟨#[]⟩
    · have ht : Go.St.byteOf ((c.toNat : Nat) : Int) = mk (E1 q c) := by
        unfold E1
        rw [if_pos hW]
        simp [Go.St.byteOf, mk]
      have hsz : (mk (esc q (s.data.toList.take j))).size + (Go.St.byteOf ((c.toNat : Nat) : Int)).size ≤ 70368744177664 := by
        have : (Go.St.byteOf ((c.toNat : Nat) : Int)).size = 1 := rfl
        omega
      have hc256 : ((c.toNat : Nat) : Int) < 256 := by have := c.toNat_lt; omega
      simp only [hW, decide_true, Bool.not_true, cond_false, primA, bldAdd, hst, hsz, if_true, Option.bind_some, Int.natCast_nonneg, hc256, and_self]
      exact hgo _ ht
    · have ht : W c.toNat q = mk (E1 q c) := by
        unfold E1
        rw [if_neg hW]
        exact (mk_data _).symm
      have hsz : (mk (esc q (s.data.toList.take j))).size + (W c.toNat q).size ≤ 70368744177664 := by
        have := W_size c.toNat q
        omega
      simp only [hW, decide_false, Bool.not_false, cond_true, primA, bldAdd, hst, hsz, if_true, Option.bind_some]
      exact hgo _ ht

theorem escaped (s : ByteArray) (q : Bool) (hs : s.size ≤ 8388608) (st : Sto) : CallR ap 37 [.str s, .bool q] st = some (.ret (.str (mk (esc q s.data.toList))), st) := by
  rw [html_escaped.call, html_escaped.b_eq]
  have h := escaped_loop s q st.length hs s.size 0 (by omega) (st ++ [.bld ByteArray.empty]) (by simp [esc, mk]; rfl)
  simp only [Int.natCast_zero] at h
  rw [h]
  simp only [Option.bind_some]
  rw [gc_keep rfl rfl]
  exact (Keeps.app (Nat.le_refl _)).trans (Keeps.set (Nat.le_refl _))

theorem text (s : ByteArray) (hs : s.size ≤ 8388608) (st : Sto) : CallR ap 23 [.str s] st = some (.ret (.str (mk (esc false s.data.toList))), st) := by
  rw [html_Text.call, html_Text.b_eq, escaped s false hs st]
  simp only [Option.bind_some, Out.on, gcs]
theorem attr (s : ByteArray) (hs : s.size ≤ 8388608) (st : Sto) : CallR ap 24 [.str s] st = some (.ret (.str (mk (esc true s.data.toList))), st) := by
  rw [html_Attr.call, html_Attr.b_eq, escaped s true hs st]
  simp only [Option.bind_some, Out.on, gcs]
end Go.Proofs.YtjcpcglhjeoifaaDoor
