/- LexCovers. -/
import Derived.Test.YtigdijdpggjpiaaDoorK
namespace Go.Proofs.YtigdijdpggjpiaaDoor
open Go.St Go.Lib
set_option linter.unusedVariables false
set_option linter.unusedSimpArgs false

/-! ### Beginnings -/
theorem pre_cons (c : UInt8) (w L : List UInt8) (a : Nat) : pre (c :: w) (L.drop a) = (pre [c] (L.drop a) && pre w (L.drop (a + 1))) := by
  unfold pre
  rw [← List.drop_drop]
  cases L.drop a with
  | nil => simp
  | cons d r => simp [List.isPrefixOf]
theorem pre_take {L : List UInt8} {a k : Nat} (hk : a + k ≤ L.length) (w : List UInt8) : pre ((L.drop a).take k ++ w) (L.drop a) = pre w (L.drop (a + k)) := by
  unfold pre
  rw [← List.drop_drop]
  have h : k ≤ (L.drop a).length := by rw [List.length_drop]; omega
  generalize L.drop a = l at h
  induction k generalizing l with
  | zero => simp
  | succ k ih =>
    cases l with
    | nil => simp at h
    | cons d r =>
      simp only [List.take_succ_cons, List.cons_append, List.isPrefixOf, beq_self_eq_true, Bool.true_and, List.drop_succ_cons]
      exact ih (by omega) r (by simpa using h)
theorem index_pre {l sub : List UInt8} (h : ¬ Lib.index l sub < 0) : pre sub (l.drop (Lib.index l sub).toNat) = true := by
  induction l with
  | nil =>
    simp only [Lib.index] at h ⊢
    cases sub with
    | nil => rfl
    | cons => simp at h
  | cons b l ih =>
    have hge := Lib.index_ge l sub
    simp only [Lib.index] at h ⊢
    by_cases hp : sub.isPrefixOf (b :: l) = true
    · simp only [hp, if_true]
      exact hp
    · simp only [hp, Bool.false_eq_true, if_false] at h ⊢
      by_cases h1 : Lib.index l sub = -1
      · simp [h1] at h
      · have h2 : (Lib.index l sub == -1) = false := by simpa using h1
        simp only [h2, Bool.false_eq_true, if_false] at h ⊢
        have := ih (by omega)
        rw [show (Lib.index l sub + 1).toNat = (Lib.index l sub).toNat + 1 by omega, List.drop_succ_cons]
        exact this

theorem pl_grow : ∀ (n : Nat) (l : List UInt8) (i : Nat) (acc t : List UInt8), (pl n l i acc).1 = some t → acc.length ≤ t.length := by
  intro n
  induction n with
  | zero => intro l i acc t h; simp only [pl] at h; cases l <;> simp at h <;> simp [← h]
  | succ n ih =>
    intro l i acc t h
    cases l with
    | nil => simp only [pl] at h; simp at h; simp [← h]
    | cons c r =>
      simp only [pl] at h
      split at h
      · have := ih _ _ _ _ h
        simp at this
        omega
      · split at h
        · have := ih _ _ _ _ h
          simp at this
          omega
        · simp at h
theorem plM_ne {sub : List UInt8} (h0 : sub ≠ []) {f p : Nat} {q : Bool} {t : List UInt8} (h : plM sub f p q = .ok t) : t ≠ [] := by
  unfold plM at h
  split at h
  · cases h
  · rename_i x k hx
    split at h
    · cases h
    · cases h
      cases sub with
      | nil => exact absurd rfl h0
      | cons c r =>
        simp only [List.length_cons, pl] at hx
        have hx1 := congrArg Prod.fst hx
        simp only at hx1
        split at hx1
        · have := pl_grow _ _ _ _ _ hx1
          rintro rfl
          simp at this
        · split at hx1
          · have := pl_grow _ _ _ _ _ hx1
            rintro rfl
            simp at this
          · simp at hx1

def beg (L : List UInt8) (t : Tk) : Bool := match t.kind with
  | 1 => !pre [60] (L.drop t.at_) && (!pre [123, 123] (L.drop t.at_) && decide (t.text ≠ []))
  | 2 => pre ([123, 123] ++ t.text ++ [125, 125]) (L.drop t.at_)
  | 3 => pre ([60] ++ t.name) (L.drop t.at_)
  | 4 => pre (t.name ++ [61, 34]) (L.drop t.at_)
  | 5 => pre ([58] ++ t.name ++ [61, 34]) (L.drop t.at_)
  | 6 => pre [62] (L.drop t.at_)
  | 7 => pre [47, 62] (L.drop t.at_)
  | 8 => pre ([60, 47] ++ t.name) (L.drop t.at_)
  | _ => false
def Seq (L : List UInt8) : Nat → List Tk → Nat → Prop
  | lo, [], hi => lo ≤ hi
  | lo, t :: r, hi => lo ≤ t.at_ ∧ t.at_ < L.length ∧ beg L t = true ∧ Seq L (t.at_ + 1) r hi
theorem Seq.low {L : List UInt8} {lo lo' hi : Nat} {ts : List Tk} (h : Seq L lo ts hi) (hl : lo' ≤ lo) : Seq L lo' ts hi := by
  cases ts with
  | nil => exact Nat.le_trans hl h
  | cons t r => exact ⟨Nat.le_trans hl h.1, h.2⟩
theorem Seq.app {L : List UInt8} {mid hi : Nat} {b : List Tk} (hb : Seq L mid b hi) : ∀ {a : List Tk} {lo : Nat}, Seq L lo a mid → Seq L lo (a ++ b) hi := by
  intro a
  induction a with
  | nil => intro lo h; exact hb.low h
  | cons t r ih => intro lo h; exact ⟨h.1, h.2.1, h.2.2.1, ih h.2.2.2⟩

theorem attr_seq {L : List UInt8} {a : Nat} {r : List Tk × Nat} (h : attrM L a = .ok r) : Seq L a r.1 r.2 := by
  have hlt := attr_lt h
  unfold attrM at h
  split at h
  · cases h
  · rename_i hb
    obtain ⟨h1, _, h2⟩ := badN_false (by simpa using hb)
    rw [List.length_drop] at h2
    unfold attr2 at h
    split at h
    · cases h
    · rename_i h61
      split at h
      · cases h
      · rename_i h34
        split at h
        · cases h
        · split at h
          · cases h
          · rename_i t ht
            cases h
            refine ⟨Nat.le_refl _, by show a < L.length; omega, ?_, by simp only at hlt ⊢; exact hlt.1⟩
            have key : pre ((L.drop (a + colon L a)).take (nm (L.drop (a + colon L a))) ++ [61, 34]) (L.drop (a + colon L a)) = true := by
              rw [pre_take (by omega), pre_cons]
              simp only [Bool.not_eq_false] at h61 h34
              rw [h61, h34]
              rfl
            unfold colon at key ⊢
            split at key
            · rename_i hp
              simp only [hp, if_true]
              show pre ([58] ++ _ ++ [61, 34]) _ = true
              rw [List.append_assoc, List.singleton_append, pre_cons, hp]
              exact key
            · rename_i hp
              simp only [hp, Bool.false_eq_true, if_false]
              exact key
theorem attrs_seq {L : List UInt8} : ∀ {m a : Nat} {r : List Tk × Nat}, attrsM m L a = .ok r → Seq L a r.1 r.2 := by
  intro m
  induction m with
  | zero => intro a r h; cases h
  | succ m ih =>
    intro a r h
    have hlt := attrs_lt h
    simp only [attrsM] at h
    split at h
    · rename_i h47
      split at h
      · rename_i h62
        have := pre1 h62
        cases h
        refine ⟨Nat.le_add_right _ _, by simp only; omega, ?_, by simp only [Seq]; omega⟩
        show pre [47, 62] _ = true
        rw [pre_cons, h47, h62]
        rfl
      · cases h
    · split at h
      · rename_i h62
        have := pre1 h62
        cases h
        exact ⟨Nat.le_add_right _ _, by simp only; omega, h62, by simp only [Seq]; omega⟩
      · split at h
        · cases h
        · cases ha : attrM L (a + bl (L.drop a)) with
          | error e => rw [ha] at h; cases h
          | ok x =>
            rw [ha] at h
            have h1 := attr_seq ha
            cases hz : attrsM m L x.2 with
            | error e => simp only [hz] at h; cases h
            | ok z =>
              simp only [hz] at h
              have h2 := ih hz
              cases h
              exact (h2.app h1).low (Nat.le_add_right _ _)
theorem step_seq {L : List UInt8} {a : Nat} (ha : a < L.length) {r : List Tk × Nat} (h : stepM L a = .ok r) : Seq L a r.1 r.2 ∧ ∃ t z, r.1 = t :: z ∧ t.at_ = a := by
  have hlt := step_lt ha h
  unfold stepM at h
  split at h
  · rename_i h123
    unfold holeM at h
    split at h
    · cases h
    · rename_i hi
      have hp := index_pre hi
      have hl := index_lt hi
      rw [List.length_drop] at hl
      cases h
      refine ⟨⟨Nat.le_refl _, ha, ?_, by simp only at hlt ⊢; exact hlt.1⟩, _, _, rfl, rfl⟩
      show pre ([123, 123] ++ _ ++ [125, 125]) _ = true
      rw [List.drop_drop] at hp
      rw [pre_cons] at h123
      simp only [Bool.and_eq_true] at h123
      rw [List.append_assoc, List.cons_append, pre_cons, h123.1, List.cons_append, pre_cons, h123.2, List.nil_append, pre_take (by simp at hl; omega), hp]
      rfl
  · rename_i h123
    split at h
    · rename_i h60
      unfold tagM at h
      split at h
      · rename_i h47
        split at h
        · cases h
        · rename_i hb
          obtain ⟨h1, _, h2⟩ := badN_false (by simpa using hb)
          rw [List.length_drop] at h2
          unfold close2 at h
          split at h
          · cases h
            refine ⟨⟨Nat.le_refl _, ha, ?_, by simp only at hlt ⊢; exact hlt.1⟩, _, _, rfl, rfl⟩
            show pre ([60, 47] ++ _) _ = true
            rw [List.cons_append, pre_cons, h60, List.cons_append, pre_cons, h47, List.nil_append]
            have := pre_take (L := L) (a := a + 2) (k := nm (L.drop (a + 2))) (by omega) []
            rw [List.append_nil] at this
            rw [this]
            rfl
          · cases h
      · split at h
        · cases h
        · rename_i hb
          obtain ⟨h1, _, h2⟩ := badN_false (by simpa using hb)
          rw [List.length_drop] at h2
          unfold open2 at h
          split at h
          · cases h
          · rename_i z hz
            have hs := attrs_seq hz
            cases h
            refine ⟨⟨Nat.le_refl _, ha, ?_, hs.low (by simp only; omega)⟩, _, _, rfl, rfl⟩
            show pre ([60] ++ _) _ = true
            rw [List.singleton_append, pre_cons, h60]
            have := pre_take (L := L) (a := a + 1) (k := nm (L.drop (a + 1))) (by omega) []
            rw [List.append_nil] at this
            rw [this]
            rfl
    · rename_i h60
      unfold textM at h
      split at h
      · cases h
      · rename_i t ht
        cases h
        refine ⟨⟨Nat.le_refl _, ha, ?_, by simp only at hlt ⊢; exact hlt.1⟩, _, _, rfl, rfl⟩
        have hne : t ≠ [] := by
          refine plM_ne ?_ ht
          intro h0
          have := congrArg List.length h0
          rw [List.length_take, List.length_drop] at this
          simp only [List.length_nil] at this hlt
          omega
        simp only [Bool.not_eq_true] at h60 h123
        simp [beg, h60, h123, hne]
theorem lex_seq {L : List UInt8} : ∀ {m a : Nat} {z : List Tk}, lexM m L a = .ok z → (∃ hi, Seq L a z hi) ∧ (a < L.length → ∃ t r, z = t :: r ∧ t.at_ = a) := by
  intro m
  induction m with
  | zero => intro a z h; cases h
  | succ m ih =>
    intro a z h
    simp only [lexM] at h
    split at h
    · cases h
      exact ⟨⟨a, Nat.le_refl _⟩, fun h => by omega⟩
    · cases ha : stepM L a with
      | error e => rw [ha] at h; cases h
      | ok x =>
        rw [ha] at h
        obtain ⟨h1, t, r, h2, h3⟩ := step_seq (by omega) ha
        cases hz : lexM m L x.2 with
        | error e => simp only [hz] at h; cases h
        | ok y =>
          simp only [hz] at h
          obtain ⟨⟨hi, k1⟩, _⟩ := ih hz
          cases h
          refine ⟨⟨hi, k1.app h1⟩, fun _ => ⟨t, r ++ y, by rw [h2]; rfl, h3⟩⟩

/-! ### The machine -/
theorem has_spec {s : ByteArray} (hs : s.size ≤ 65536) {a : Nat} (ha : a ≤ s.size) (w : ByteArray) (hw : w.size ≤ 65536) (st : Sto) :
    CallR ap 23 [.str s, .int .i64 (a : Nat), .str w] st = some (.ret (.bool (pre w.data.toList (s.data.toList.drop a))), st) := by
  have hwr : IntKind.wrap .i64 (((s.size : Nat) : Int) - ((a : Nat) : Int)) = ((s.size - a : Nat) : Int) := w64 _ (by omega) (by omega)
  rw [stencillaw12_has.call]
  refine ret_keep ?_ rfl rfl (Keeps.refl _ _)
  rw [stencillaw12_has.b_eq]
  simp only [hwr]
  unfold pre
  rw [pre_iff]
  by_cases hle : w.size ≤ s.size - a
  · have e : (((w.size : Nat) : Int) ≤ ((s.size - a : Nat) : Int)) := by omega
    have hw2 : IntKind.wrap .i64 (((a : Nat) : Int) + ((w.size : Nat) : Int)) = ((a + w.size : Nat) : Int) := w64 _ (by omega) (by omega)
    have b1 : bnd s.size s.size (some (.int .i64 ((a + w.size : Nat) : Int))) = some (a + w.size) := bnd_int (by omega)
    have b2 : bnd 0 (a + w.size) (some (.int .i64 ((a : Nat) : Int))) = some a := bnd_int (by omega)
    simp only [e, decide_true, cond_true, hw2, b1, b2, Option.bind_some, ba_ext, ext_list, Nat.add_sub_cancel_left, ← size_list]
  · have e : ¬ (((w.size : Nat) : Int) ≤ ((s.size - a : Nat) : Int)) := by omega
    have : ¬ (List.take w.data.toList.length (List.drop a s.data.toList) = w.data.toList) := by
      intro h
      have := congrArg List.length h
      rw [List.length_take, List.length_drop, ← size_list, ← size_list] at this
      omega
    simp only [e, decide_false, cond_false, this]

theorem begins_spec {s : ByteArray} (hs : s.size ≤ 65536) {t : Tk} (ha : t.at_ < s.size) (hb : beg s.data.toList t = true) (st : Sto) :
    CallR ap 13 [.str s, .agg (tcell t)] st = some (.ret (.bool true), st) := by
  obtain ⟨k, nme, tx, a⟩ := t
  have ha : a < s.size := ha
  have hcell : ((AV.cells (.agg (tcell ⟨k, nme, tx, a⟩))).all AV.isCell) = true := rfl
  obtain ⟨st1, hst1⟩ : ∃ st1, st1 = st ++ [Ob.cells 0 (tcell ⟨k, nme, tx, a⟩) 0] := ⟨_, rfl⟩
  have hat : st1[st.length]? = some (.cells 0 (tcell ⟨k, nme, tx, a⟩) 0) := by rw [hst1]; simp
  have l0 : ld false 1 st1 (.mp st.length 0 0) = some (.int .i64 (k : Nat)) := m_get (n := 0) hat rfl
  have l1 : ld false 1 st1 (.mp st.length 0 1) = some (.str (mk nme)) := m_get (n := 1) hat rfl
  have l2 : ld false 1 st1 (.mp st.length 0 2) = some (.str (mk tx)) := m_get (n := 2) hat rfl
  have l3 : ld false 1 st1 (.mp st.length 0 3) = some (.int .i64 (a : Nat)) := m_get (n := 3) hat rfl
  rw [stencillaw12_begins.call]
  refine ret_keep (st' := st1) ?_ rfl rfl (by rw [hst1]; exact Keeps.app (Nat.le_refl _))
  rw [stencillaw12_begins.b_eq]
  rw [if_pos hcell]
  rw [show st ++ [Ob.cells 0 (AV.cells (.agg (tcell ⟨k, nme, tx, a⟩))) 0] = st1 from hst1.symm]
  have hsp : ∀ w : ByteArray, pre w.data.toList (s.data.toList.drop a) = true → CallR ap 23 [.str s, .int .i64 (a : Nat), .str w] st1 = some (.ret (.bool true), st1) := by
    intro w hw
    have := pre_drop hw
    have hz : w.data.toList = [] → w.size = 0 := fun h => by rw [size_list, h]; rfl
    rw [← size_list, ← size_list] at this
    have hw2 : w.size ≤ 65536 := by
      rcases this with h | h
      · omega
      · have := hz h
        omega
    rw [has_spec hs (by omega) w hw2 st1, hw]
  have hln : ∀ w x : List UInt8, pre w (s.data.toList.drop a) = true → x.length ≤ w.length → (mk x).size ≤ 65536 := by
    intro w x hw hx
    have := pre_drop hw
    rw [← size_list] at this
    rw [mk_size]
    rcases this with h | h
    · omega
    · subst h
      simp at hx
      simp [hx]
  unfold beg at hb
  simp only at hb
  split at hb
  · obtain ⟨h1, h2⟩ := Bool.and_eq_true_iff.1 hb
    obtain ⟨h2, h3⟩ := Bool.and_eq_true_iff.1 h2
    obtain ⟨ch, _, hby, hdr⟩ := drop_at ha
    have hne : decide (byt s a = 60) = false := by
      rw [hby]
      simp only [hdr, pre, List.isPrefixOf, Bool.and_true] at h1
      refine decide_eq_false fun h => ?_
      have : ch = 60 := UInt8.toNat_inj.1 (by show ch.toNat = 60; omega)
      rw [this] at h1
      simp at h1
    have hp := has_spec hs (Nat.le_of_lt ha) ⟨#[123, 123]⟩ (by decide) st1
    rw [show (ByteArray.mk #[123, 123]).data.toList = [123, 123] from rfl, show pre [123, 123] (s.data.toList.drop a) = false by simpa using h2] at hp
    have ht : decide (mk tx = ⟨#[]⟩) = false := decide_eq_false fun h => by
      have := mk_inj (b := []) h
      simp [this] at h3
    simp only [l0, l2, l3, Option.bind_some, asI, Go.St.asInt, if_true, show decide ((((1 : Nat) : Int)) = 1) = true from rfl, cond_true, idx_nat ha, hne, Bool.not_false, hp, Out.on, asB, asS, ht]
  · have hs1 := hsp (((⟨#[123, 123]⟩ : ByteArray) ++ mk tx) ++ ⟨#[125, 125]⟩) (by rw [show (⟨#[123, 123]⟩ : ByteArray) = mk [123, 123] from rfl, show (⟨#[125, 125]⟩ : ByteArray) = mk [125, 125] from rfl, mk_app, mk_app]; exact hb)
    have hz := hln _ tx hb (by simp <;> omega)
    have z1 : ByteArray.size (⟨#[123, 123]⟩ : ByteArray) + (mk tx).size ≤ 9223372036854775807 := by rw [show ByteArray.size (⟨#[123, 123]⟩ : ByteArray) = 2 from rfl]; omega
    have z2 : ByteArray.size ((⟨#[123, 123]⟩ : ByteArray) ++ mk tx) + ByteArray.size (⟨#[125, 125]⟩ : ByteArray) ≤ 9223372036854775807 := by rw [ByteArray.size_append, show ByteArray.size (⟨#[123, 123]⟩ : ByteArray) = 2 from rfl, show ByteArray.size (⟨#[125, 125]⟩ : ByteArray) = 2 from rfl]; omega
    simp only [l0, l2, l3, Option.bind_some, asI, if_true, show decide ((((2 : Nat) : Int)) = 1) = false from rfl, show decide ((((2 : Nat) : Int)) = 2) = true from rfl, cond_true, cond_false, asS, z1, z2, hs1, Out.on]
  · have hs1 := hsp ((⟨#[60]⟩ : ByteArray) ++ mk nme) (by rw [show (⟨#[60]⟩ : ByteArray) = mk [60] from rfl, mk_app]; exact hb)
    have hz := hln _ nme hb (by simp <;> omega)
    have z1 : ByteArray.size (⟨#[60]⟩ : ByteArray) + (mk nme).size ≤ 9223372036854775807 := by rw [show ByteArray.size (⟨#[60]⟩ : ByteArray) = 1 from rfl]; omega
    simp only [l0, l1, l3, Option.bind_some, asI, if_true, show decide ((((3 : Nat) : Int)) = 1) = false from rfl, show decide ((((3 : Nat) : Int)) = 2) = false from rfl, show decide ((((3 : Nat) : Int)) = 3) = true from rfl, cond_true, cond_false, asS, z1, hs1, Out.on]
  · have hs1 := hsp (mk nme ++ (⟨#[61, 34]⟩ : ByteArray)) (by rw [show (⟨#[61, 34]⟩ : ByteArray) = mk [61, 34] from rfl, mk_app]; exact hb)
    have hz := hln _ nme hb (by simp <;> omega)
    have z1 : (mk nme).size + ByteArray.size (⟨#[61, 34]⟩ : ByteArray) ≤ 9223372036854775807 := by rw [show ByteArray.size (⟨#[61, 34]⟩ : ByteArray) = 2 from rfl]; omega
    simp only [l0, l1, l3, Option.bind_some, asI, if_true, show decide ((((4 : Nat) : Int)) = 1) = false from rfl, show decide ((((4 : Nat) : Int)) = 2) = false from rfl, show decide ((((4 : Nat) : Int)) = 3) = false from rfl, show decide ((((4 : Nat) : Int)) = 4) = true from rfl, cond_true, cond_false, asS, z1, hs1, Out.on]
  · have hs1 := hsp (((⟨#[58]⟩ : ByteArray) ++ mk nme) ++ (⟨#[61, 34]⟩ : ByteArray)) (by rw [show (⟨#[58]⟩ : ByteArray) = mk [58] from rfl, show (⟨#[61, 34]⟩ : ByteArray) = mk [61, 34] from rfl, mk_app, mk_app]; exact hb)
    have hz := hln _ nme hb (by simp <;> omega)
    have z1 : ByteArray.size (⟨#[58]⟩ : ByteArray) + (mk nme).size ≤ 9223372036854775807 := by rw [show ByteArray.size (⟨#[58]⟩ : ByteArray) = 1 from rfl]; omega
    have z2 : ByteArray.size ((⟨#[58]⟩ : ByteArray) ++ mk nme) + ByteArray.size (⟨#[61, 34]⟩ : ByteArray) ≤ 9223372036854775807 := by rw [ByteArray.size_append, show ByteArray.size (⟨#[58]⟩ : ByteArray) = 1 from rfl, show ByteArray.size (⟨#[61, 34]⟩ : ByteArray) = 2 from rfl]; omega
    simp only [l0, l1, l3, Option.bind_some, asI, if_true, show decide ((((5 : Nat) : Int)) = 1) = false from rfl, show decide ((((5 : Nat) : Int)) = 2) = false from rfl, show decide ((((5 : Nat) : Int)) = 3) = false from rfl, show decide ((((5 : Nat) : Int)) = 4) = false from rfl, show decide ((((5 : Nat) : Int)) = 5) = true from rfl, cond_true, cond_false, asS, z1, z2, hs1, Out.on]
  · have hs1 := hsp (⟨#[62]⟩ : ByteArray) hb
    simp only [l0, l3, Option.bind_some, asI, if_true, show decide ((((6 : Nat) : Int)) = 1) = false from rfl, show decide ((((6 : Nat) : Int)) = 2) = false from rfl, show decide ((((6 : Nat) : Int)) = 3) = false from rfl, show decide ((((6 : Nat) : Int)) = 4) = false from rfl, show decide ((((6 : Nat) : Int)) = 5) = false from rfl, show decide ((((6 : Nat) : Int)) = 6) = true from rfl, cond_true, cond_false, asS, hs1, Out.on]
  · have hs1 := hsp (⟨#[47, 62]⟩ : ByteArray) hb
    simp only [l0, l3, Option.bind_some, asI, if_true, show decide ((((7 : Nat) : Int)) = 1) = false from rfl, show decide ((((7 : Nat) : Int)) = 2) = false from rfl, show decide ((((7 : Nat) : Int)) = 3) = false from rfl, show decide ((((7 : Nat) : Int)) = 4) = false from rfl, show decide ((((7 : Nat) : Int)) = 5) = false from rfl, show decide ((((7 : Nat) : Int)) = 6) = false from rfl, show decide ((((7 : Nat) : Int)) = 7) = true from rfl, cond_true, cond_false, asS, hs1, Out.on]
  · have hs1 := hsp ((⟨#[60, 47]⟩ : ByteArray) ++ mk nme) (by rw [show (⟨#[60, 47]⟩ : ByteArray) = mk [60, 47] from rfl, mk_app]; exact hb)
    have hz := hln _ nme hb (by simp <;> omega)
    have z1 : ByteArray.size (⟨#[60, 47]⟩ : ByteArray) + (mk nme).size ≤ 9223372036854775807 := by rw [show ByteArray.size (⟨#[60, 47]⟩ : ByteArray) = 2 from rfl]; omega
    simp only [l0, l1, l3, Option.bind_some, asI, if_true, show decide ((((8 : Nat) : Int)) = 1) = false from rfl, show decide ((((8 : Nat) : Int)) = 2) = false from rfl, show decide ((((8 : Nat) : Int)) = 3) = false from rfl, show decide ((((8 : Nat) : Int)) = 4) = false from rfl, show decide ((((8 : Nat) : Int)) = 5) = false from rfl, show decide ((((8 : Nat) : Int)) = 6) = false from rfl, show decide ((((8 : Nat) : Int)) = 7) = false from rfl, show decide ((((8 : Nat) : Int)) = 8) = true from rfl, cond_true, cond_false, asS, asB, z1, hs1, Out.on]
  · cases hb

theorem covers_loop {s : ByteArray} (hs : s.size ≤ 65536) {n : Nat} {st : Sto} {x : AV} {ts : List Tk} (hx : Row n st x ts) (hlen : ts.length ≤ 65536) : ∀ (m j lo : Nat), j + m = ts.length → (∃ hi, Seq s.data.toList lo (ts.drop j) hi) → (0 < j → ∃ t, ts[j - 1]? = some t ∧ t.at_ + 1 = lo) →
    stencillaw12_LexCovers.p111110100 s x ((j : Nat) : Int) st = some ⟨.ret (.bool true), none, st⟩ := by
  intro m
  induction m with
  | zero =>
    intro j lo hj _ _
    have e : ¬ (((j : Nat) : Int) < ((ts.length : Nat) : Int)) := by omega
    rw [stencillaw12_LexCovers.p111110100_eq]
    simp only [hx.len, Option.bind_some, e, decide_false, cond_false]
  | succ m ih =>
    intro j lo hj hsq hprev
    have hlt : j < ts.length := by omega
    have e : (((j : Nat) : Int) < ((ts.length : Nat) : Int)) := by omega
    obtain ⟨hi, hq⟩ := hsq
    rw [List.drop_eq_getElem_cons hlt] at hq
    obtain ⟨q1, q2, q3, q4⟩ := hq
    obtain ⟨t, ht⟩ : ∃ t, t = ts[j] := ⟨_, rfl⟩
    rw [← ht] at q1 q2 q3 q4
    have hget : ts[j]? = some t := by rw [List.getElem?_eq_getElem hlt, ht]
    obtain ⟨id, g, o, a1, a2, a3⟩ := hx.at hget
    obtain ⟨f1, f2⟩ := a3 3 (.int .i64 (t.at_ : Nat)) rfl
    rw [← size_list] at q2
    have c1 : ¬ (((t.at_ : Nat) : Int) < 0) := by omega
    have c2 : ¬ (((s.size : Nat) : Int) ≤ ((t.at_ : Nat) : Int)) := by omega
    have hw : IntKind.wrap .i64 (((j : Nat) : Int) + 1) = ((j + 1 : Nat) : Int) := w64 _ (by omega) (by omega)
    have nxt := ih (j + 1) (t.at_ + 1) (by omega) ⟨hi, q4⟩ (fun _ => ⟨t, by rw [Nat.add_sub_cancel]; exact hget, rfl⟩)
    have fin : stencillaw12_LexCovers.p11111010010011 s x ((j : Nat) : Int) false st = some ⟨.ret (.bool true), none, st⟩ := by
      rw [stencillaw12_LexCovers.p11111010010011_eq]
      simp only [cond_false, hw, nxt]
    rw [stencillaw12_LexCovers.p111110100_eq]
    simp only [hx.len, Option.bind_some, e, decide_true, cond_true, a1, f1, f2, asI, if_true, c1, c2, decide_false, cond_false, a2, begins_spec hs q2 q3, Out.on, asB, Bool.not_true, fin]
    by_cases h0 : 0 < j
    · obtain ⟨t0, p1, p2⟩ := hprev h0
      obtain ⟨id', g', o', b1, b2, b3⟩ := hx.at p1
      obtain ⟨f3, f4⟩ := b3 3 (.int .i64 (t0.at_ : Nat)) rfl
      have e0 : ((0 : Int) < ((j : Nat) : Int)) := by omega
      have hw0 : IntKind.wrap .i64 (((j : Nat) : Int) - 1) = ((j - 1 : Nat) : Int) := w64 _ (by omega) (by omega)
      have c3 : ¬ (((t.at_ : Nat) : Int) ≤ ((t0.at_ : Nat) : Int)) := by omega
      simp only [e0, decide_true, cond_true, hw0, b1, f3, f4, Option.bind_some, asI, if_true, c3, decide_false, cond_false, a1, a2, begins_spec hs q2 q3, Out.on, asB, Bool.not_true, fin]
    · have e0 : ¬ ((0 : Int) < ((j : Nat) : Int)) := by omega
      simp only [e0, decide_false, cond_false, a1, a2, Option.bind_some, begins_spec hs q2 q3, Out.on, asB, Bool.not_true, fin]

theorem lexM_len {L : List UInt8} : ∀ {m a : Nat} {z : List Tk}, lexM m L a = .ok z → a ≤ L.length → z.length + a ≤ L.length := by
  intro m
  induction m with
  | zero => intro a z h; cases h
  | succ m ih =>
    intro a z h ha
    simp only [lexM] at h
    split at h
    · cases h
      simpa using ha
    · cases hs : stepM L a with
      | error e => rw [hs] at h; cases h
      | ok x =>
        rw [hs] at h
        have h1 := stepM_len (by omega) hs
        have h2 := step_lt (by omega) hs
        cases hz : lexM m L x.2 with
        | error e => simp only [hz] at h; cases h
        | ok y =>
          simp only [hz] at h
          have := ih hz (by omega)
          cases h
          rw [List.length_append]
          omega

theorem lexR_err {s : ByteArray} {r : Option Nat} (hr : Scan s 0 r) {e : Nat × Nat} (h : lexR s r = .error e) : 1200 ≤ e.1 ∧ e.1 ≤ 1205 ∧ e.2 ≤ s.size := by
  unfold lexR at h
  split at h
  · cases h
    simp
  · cases r with
    | some a =>
      have := scan_some hr rfl
      cases h
      simp only
      omega
    | none =>
      have := lexM_err (by rw [← size_list]; omega) (Nat.zero_le _) h
      unfold okE at this
      rw [← size_list] at this
      omega
theorem lexR_ok {s : ByteArray} {r : Option Nat} {ts : List Tk} (h : lexR s r = .ok ts) : s.size ≤ 65536 ∧ r = none ∧ lexM (s.size + 1) s.data.toList 0 = .ok ts := by
  unfold lexR at h
  split at h
  · cases h
  · cases r with
    | some a => cases h
    | none => exact ⟨by omega, rfl, h⟩

theorem covers_law (s : ByteArray) (hs : s.size < 4611686018427387904) : CallR ap 4 [.str s] [] = some (.ret (.bool true), []) := by
  obtain ⟨r, hr⟩ := scan_ex s s.size 0 (by omega) (Nat.zero_le _)
  have hl := lex_spec hs hr []
  rw [stencillaw12_LexCovers.call]
  cases he : lexR s r with
  | error e =>
    obtain ⟨e1, e2, e3⟩ := lexR_err hr he
    rw [he] at hl
    have hl : CallR ap 7 [.str s] [] = some (.ret (.tup [.nils, .int .i64 (e.2 : Nat), .int .i64 (e.1 : Nat)]), []) := hl
    have c1 : ¬ (((e.1 : Nat) : Int) = 0) := by omega
    have c2 : ((0 : Int) ≤ ((e.2 : Nat) : Int)) := by omega
    have c3 : (((e.2 : Nat) : Int) ≤ ((s.size : Nat) : Int)) := by omega
    refine ret_keep ?_ rfl rfl (Keeps.refl _ _)
    rw [stencillaw12_LexCovers.b_eq]
    simp only [awake_spec, Option.bind_some, Out.on, asB, Bool.not_true, cond_false, hl, ext, List.getElem?_cons_zero, List.getElem?_cons_succ, num, asI, if_true, c1, decide_false, Bool.not_false, cond_true, c2, c3, decide_true, lenL]
    rfl
  | ok ts =>
    obtain ⟨h1, h2, h3⟩ := lexR_ok he
    rw [he] at hl
    obtain ⟨x, st', k1, k2, k3⟩ := hl
    obtain ⟨⟨hi, s1⟩, s2⟩ := lex_seq h3
    have hlen := lexM_len h3 (Nat.zero_le _)
    rw [← size_list] at hlen s2
    have loop := covers_loop h1 k2 (by omega) ts.length 0 0 (by omega) ⟨hi, by simpa using s1⟩ (fun h => by omega)
    refine ret_keep (st' := st') ?_ rfl rfl k3
    rw [stencillaw12_LexCovers.b_eq]
    have fin : stencillaw12_LexCovers.p111101 s x false st' = some ⟨.ret (.bool true), none, st'⟩ := by
      rw [stencillaw12_LexCovers.p111101_eq]
      exact loop
    simp only [awake_spec, Option.bind_some, Out.on, asB, Bool.not_true, cond_false, k1, ext, List.getElem?_cons_zero, List.getElem?_cons_succ, num, asI, if_true, decide_true, fin]
    by_cases h0 : 0 < s.size
    · have c0 : ((0 : Int) < ((s.size : Nat) : Int)) := by omega
      obtain ⟨t, r', e1, e2⟩ := s2 h0
      have hget : ts[0]? = some t := by rw [e1]; rfl
      obtain ⟨id, g, o, a1, a2, a3⟩ := k2.at hget
      obtain ⟨f1, f2⟩ := a3 3 (.int .i64 (t.at_ : Nat)) rfl
      have a1 : ia 4 x (.int .i64 0) = some (.mp id g o) := a1
      have c1 : ¬ (((ts.length : Nat) : Int) = 0) := by rw [e1]; simp only [List.length_cons]; omega
      simp only [c0, decide_true, cond_true, k2.len, Option.bind_some, c1, decide_false, cond_false, a1, f1, f2, e2]
      exact fin
    · have c0 : ¬ ((0 : Int) < ((s.size : Nat) : Int)) := by omega
      simp only [c0, decide_false, cond_false]
end Go.Proofs.YtigdijdpggjpiaaDoor
