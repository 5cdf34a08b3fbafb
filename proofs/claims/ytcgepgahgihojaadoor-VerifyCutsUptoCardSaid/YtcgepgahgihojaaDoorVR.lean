/- Programs out of what a row reads; trees not too deep; awake. -/
import Derived.Test.YtcgepgahgihojaaDoorVV
import Derived.Test.YtcgepgahgihojaaDoorStS22
import Derived.Test.YtcgepgahgihojaaDoorStEv
namespace Go.Proofs.YtcgepgahgihojaaDoor
open Go.St Go.Lib
set_option linter.unusedVariables false
set_option linter.unusedSimpArgs false

theorem t3 : assoc 3 ap.tab = some td3 := by kernel_rfl
theorem t9 : assoc 9 ap.tab = some td9 := by kernel_rfl
theorem t22 : assoc 22 ap.tab = some td22 := by kernel_rfl
theorem t23 : assoc 23 ap.tab = some td23 := by kernel_rfl
theorem t24 : assoc 24 ap.tab = some td24 := by kernel_rfl
theorem t25 : assoc 25 ap.tab = some td25 := by kernel_rfl
theorem t27 : assoc 27 ap.tab = some td27 := by kernel_rfl
theorem t34 : assoc 34 ap.tab = some td34 := by kernel_rfl
theorem t35 : assoc 35 ap.tab = some td35 := by kernel_rfl
theorem t37 : assoc 37 ap.tab = some td37 := by kernel_rfl
theorem t39 : assoc 39 ap.tab = some td39 := by kernel_rfl
theorem t43 : assoc 43 ap.tab = some td43 := by kernel_rfl
theorem t44 : assoc 44 ap.tab = some td44 := by kernel_rfl
theorem t45 : assoc 45 ap.tab = some td45 := by kernel_rfl
theorem t47 : assoc 47 ap.tab = some td47 := by kernel_rfl
theorem t117 : assoc 117 ap.tab = some td117 := by kernel_rfl

theorem str_shape {n : Nat} {l : List AV} (h : Shp ap n 9 l) : ∃ s : ByteArray, l = [.str s] := by
  cases n with
  | zero => exact h.elim
  | succ n =>
    simp only [Shp, t9] at h
    obtain ⟨s, h, _⟩ := h
    exact ⟨s, h⟩
theorem int_shape {n : Nat} {l : List AV} (h : Shp ap n 3 l) : ∃ x : Int, l = [.int .i64 x] := by
  cases n with
  | zero => exact h.elim
  | succ n =>
    simp only [Shp, t3] at h
    obtain ⟨x, h, hw⟩ := h
    exact ⟨x, h⟩
theorem rowAV_at {ms : List (List AV)} (h : ms.length = 0 ∨ ms.flatten.length ≠ 0) : rowAV ms = .is ms.flatten ms.length .no := by
  unfold rowAV
  rw [if_pos h]

/-! ### Rows of rows -/
theorem flat_len {w : Nat} : ∀ {ms : List (List AV)}, (∀ m ∈ ms, m.length = w) → ms.flatten.length = ms.length * w := by
  intro ms
  induction ms with
  | nil => intro _; simp
  | cons m r ih => intro h; rw [List.flatten_cons, List.length_append, ih fun x hx => h x (by simp [hx]), h m (by simp), List.length_cons, Nat.succ_mul]; omega
theorem flat_at {w : Nat} : ∀ {ms : List (List AV)} {i : Nat}, (∀ m ∈ ms, m.length = w) → i < ms.length → (ms.flatten.drop (i * w)).take w = ms.getD i [] := by
  intro ms
  induction ms with
  | nil => intro i _ h; simp at h
  | cons m r ih =>
    intro i h hi
    have hm := h m (by simp)
    cases i with
    | zero => rw [List.flatten_cons, Nat.zero_mul, List.drop_zero, ← hm, List.take_left]; rfl
    | succ i =>
      rw [List.flatten_cons, Nat.succ_mul, Nat.add_comm, ← List.drop_drop, ← hm, List.drop_left, hm]
      exact ih (fun x hx => h x (by simp [hx])) (by simpa using hi)
theorem bulk_mem : ∀ {ms : List (List AV)} {m : List AV}, m ∈ ms → bulks m ≤ bulks ms.flatten := by
  intro ms
  induction ms with
  | nil => intro m h; simp at h
  | cons x r ih =>
    intro m h
    rw [List.flatten_cons, bulks_app]
    rcases List.mem_cons.1 h with rfl | h
    · omega
    · have := ih h; omega
theorem bulk_len : ∀ {ms : List (List AV)}, (∀ m ∈ ms, 1 ≤ bulks m) → ms.length ≤ bulks ms.flatten := by
  intro ms
  induction ms with
  | nil => intro _; simp
  | cons x r ih =>
    intro h
    rw [List.flatten_cons, bulks_app]
    have := ih fun y hy => h y (by simp [hy])
    have := h x (by simp)
    simp only [List.length_cons]
    omega
theorem getD_mem {ms : List (List AV)} {i : Nat} (h : i < ms.length) : ms.getD i [] ∈ ms := by
  rw [List.getD_eq_getElem?_getD, List.getElem?_eq_getElem h]
  exact List.getElem_mem h
/-- What is read of each is read of all. -/
theorem all_of {α : Type} (d : α) {Q : α → List AV → Prop} : ∀ {ms : List (List AV)}, (∀ m ∈ ms, ∃ x, Q x m) → ∃ l : List α, l.length = ms.length ∧ ∀ i, i < ms.length → Q (l.getD i d) (ms.getD i []) := by
  intro ms
  induction ms with
  | nil => intro _; exact ⟨[], rfl, fun i hi => by simp at hi⟩
  | cons m r ih =>
    intro h
    obtain ⟨x, hx⟩ := h m (by simp)
    obtain ⟨l, h1, h2⟩ := ih fun y hy => h y (by simp [hy])
    refine ⟨x :: l, by simp [h1], fun i hi => ?_⟩
    cases i with
    | zero => exact hx
    | succ i => exact h2 i (by simpa using hi)
theorem el_row {w : Nat} (hw : 0 < w) {ms : List (List AV)} {f : Nat → List AV → Prop} (hl : ∀ m ∈ ms, m.length = w) (hf : ∀ i, i < ms.length → f i (ms.getD i [])) {tok : Tok} : ElV w ms.length f (.is ms.flatten ms.length tok) := by
  refine ⟨rfl, rfl, rfl, fun i hi => ⟨ms.getD i [], ?_, hf i hi⟩⟩
  have hfl := flat_len hl
  have hc : (i + 1) * w ≤ ms.flatten.length := by rw [hfl]; exact Nat.mul_le_mul_right w hi
  simp only [ia, idx_nat hi, Option.bind_some, hc, if_true, flat_at hl hi]
theorem el_nil {w : Nat} {f : Nat → List AV → Prop} : ElV w 0 f .nils := ⟨rfl, rfl, rfl, fun i hi => absurd hi (by omega)⟩
theorem row_of {w : Nat} (hw : 0 < w) {ms : List (List AV)} (hl : ∀ m ∈ ms, m.length = w) : rowAV ms = .is ms.flatten ms.length .no := by
  refine rowAV_at ?_
  have := flat_len hl
  by_cases h : ms.length = 0
  · exact .inl h
  · right
    rw [this]
    have := Nat.mul_pos (Nat.pos_of_ne_zero h) hw
    omega

/-! ### The types -/
theorem ints_shape {n : Nat} {l : List AV} (h : Shp ap n 34 l) : ∃ v xs, l = [v] ∧ IntV xs v ∧ xs.length + 1 ≤ v.bulk := by
  cases n with
  | zero => exact h.elim
  | succ n =>
    simp only [Shp, t34] at h
    rcases h with rfl | ⟨ms, rfl, _, hm⟩
    · exact ⟨_, [], rfl, el_nil, by simp [AV.bulk]⟩
    · obtain ⟨xs, h1, h2⟩ := all_of (0 : Int) (Q := fun x m => m = [.int .i64 x]) (ms := ms) fun m hmm => int_shape (hm m hmm)
      have hl : ∀ m ∈ ms, m.length = 1 := fun m hmm => by obtain ⟨x, rfl⟩ := int_shape (hm m hmm); rfl
      have hb := bulk_len (ms := ms) fun m hmm => by obtain ⟨x, rfl⟩ := int_shape (hm m hmm); simp [bulks, AV.bulk]
      refine ⟨_, xs, rfl, ?_, ?_⟩
      · rw [row_of (by omega) hl]
        unfold IntV
        rw [h1]
        exact el_row (by omega) hl h2
      · rw [row_of (by omega) hl, AV.bulk]
        omega
theorem op_shape {n : Nat} {l : List AV} (h : Shp ap n 39 l) : ∃ o, OpC o l ∧ o.l.length + 1 ≤ bulks l := by
  cases n with
  | zero => exact h.elim
  | succ n =>
    simp only [Shp, t39] at h
    obtain ⟨ps, rfl, hl, hp⟩ := h
    match ps, hl with
    | [q0, q1, q2, q3, q4], _ =>
      obtain ⟨k, rfl⟩ := int_shape (hp 0 _ _ rfl rfl)
      obtain ⟨a, rfl⟩ := int_shape (hp 1 _ _ rfl rfl)
      obtain ⟨b, rfl⟩ := int_shape (hp 2 _ _ rfl rfl)
      obtain ⟨c, rfl⟩ := int_shape (hp 3 _ _ rfl rfl)
      obtain ⟨v, xs, rfl, hv, hb⟩ := ints_shape (hp 4 _ _ rfl rfl)
      refine ⟨⟨k, a, b, c, xs⟩, ⟨v, rfl, hv⟩, ?_⟩
      simp only [List.flatten_cons, List.flatten_nil, List.append_nil, List.cons_append, List.nil_append, bulks, AV.bulk]
      omega
theorem ops_shape {n : Nat} {l : List AV} (h : Shp ap n 35 l) : ∃ v os, l = [v] ∧ OpsV os v ∧ os.length + 1 ≤ v.bulk ∧ ∀ i, (os.getD i default).l.length ≤ v.bulk := by
  cases n with
  | zero => exact h.elim
  | succ n =>
    simp only [Shp, t35] at h
    rcases h with rfl | ⟨ms, rfl, _, hm⟩
    · exact ⟨_, [], rfl, el_nil, by simp [AV.bulk], fun i => by simp [default, instInhabitedOpA.default]⟩
    · obtain ⟨os, h1, h2⟩ := all_of (default : OpA) (Q := fun o m => OpC o m ∧ o.l.length + 1 ≤ bulks m) (ms := ms) fun m hmm => op_shape (hm m hmm)
      have hl : ∀ m ∈ ms, m.length = 5 := fun m hmm => by obtain ⟨o, ⟨lv, rfl, _⟩, _⟩ := op_shape (hm m hmm); rfl
      have hb := bulk_len (ms := ms) fun m hmm => by obtain ⟨o, _, hb⟩ := op_shape (hm m hmm); omega
      rw [row_of (by omega) hl]
      refine ⟨_, os, rfl, ?_, ?_, fun i => ?_⟩
      · unfold OpsV
        rw [h1]
        exact el_row (by omega) hl fun i hi => (h2 i hi).1
      · rw [AV.bulk]; omega
      · rw [AV.bulk]
        by_cases hi : i < ms.length
        · have := (h2 i hi).2
          have := bulk_mem (getD_mem hi)
          omega
        · rw [List.getD_eq_getElem?_getD, List.getElem?_eq_none (by omega)]
          exact Nat.zero_le _
def BlOk (b : BlA) (m : List AV) : Prop := BlC b m ∧ b.ops.length + 1 ≤ bulks m ∧ b.upd.length + 1 ≤ bulks m ∧ ∀ i, (b.ops.getD i default).l.length ≤ bulks m
theorem block_shape {n : Nat} {l : List AV} (h : Shp ap n 37 l) : ∃ b, BlOk b l := by
  cases n with
  | zero => exact h.elim
  | succ n =>
    simp only [Shp, t37] at h
    obtain ⟨ps, rfl, hl, hp⟩ := h
    match ps, hl with
    | [q0, q1, q2], _ =>
      obtain ⟨d, rfl⟩ := int_shape (hp 0 _ _ rfl rfl)
      obtain ⟨ov, os, rfl, ho, hob, hol⟩ := ops_shape (hp 1 _ _ rfl rfl)
      obtain ⟨uv, us, rfl, hu, hub⟩ := ints_shape (hp 2 _ _ rfl rfl)
      have hbk : bulks ([[AV.int .i64 d], [ov], [uv]].flatten) = 1 + (ov.bulk + (uv.bulk + 0)) := rfl
      refine ⟨⟨d, os, us⟩, ⟨ov, uv, rfl, ho, hu⟩, ?_, ?_, fun i => ?_⟩
      · rw [hbk]; show os.length + 1 ≤ _; omega
      · rw [hbk]; show us.length + 1 ≤ _; omega
      · have := hol i
        rw [hbk]; show (os.getD i default).l.length ≤ _; omega
def BlsV (l : List BlA) (v : AV) : Prop := ElV 3 l.length (fun i cs => BlC (l.getD i default) cs) v
theorem BlsV.blv {l : List BlA} {v : AV} (h : BlsV l v) (P : Nat) (S : Sto) : BlV P S l v := by
  obtain ⟨h1, h2, h3, h4⟩ := h
  refine ⟨h1, h2, isRowB_cells h3, fun i hi => ?_⟩
  obtain ⟨cs, a, b⟩ := h4 i hi
  exact ⟨.ip cs, cs, a, rfl, rfl, .inl rfl, b⟩
theorem blocks_shape {n : Nat} {l : List AV} (h : Shp ap n 25 l) : ∃ v bs, l = [v] ∧ BlsV bs v ∧ bs.length + 1 ≤ v.bulk ∧ ∀ i, (bs.getD i default).ops.length ≤ v.bulk ∧ (bs.getD i default).upd.length ≤ v.bulk ∧ ∀ j, ((bs.getD i default).ops.getD j default).l.length ≤ v.bulk := by
  cases n with
  | zero => exact h.elim
  | succ n =>
    simp only [Shp, t25] at h
    rcases h with rfl | ⟨ms, rfl, _, hm⟩
    · exact ⟨_, [], rfl, el_nil, by simp [AV.bulk], fun i => ⟨Nat.zero_le _, Nat.zero_le _, fun j => Nat.zero_le _⟩⟩
    · obtain ⟨bs, h1, h2⟩ := all_of (default : BlA) (Q := BlOk) (ms := ms) fun m hmm => block_shape (hm m hmm)
      have hl : ∀ m ∈ ms, m.length = 3 := fun m hmm => by obtain ⟨o, ⟨lv, uv, rfl, _⟩, _⟩ := block_shape (hm m hmm); rfl
      have hb := bulk_len (ms := ms) fun m hmm => by obtain ⟨o, _, hb, _⟩ := block_shape (hm m hmm); omega
      rw [row_of (by omega) hl]
      refine ⟨_, bs, rfl, ?_, ?_, fun i => ?_⟩
      · unfold BlsV
        rw [h1]
        exact el_row (by omega) hl fun i hi => (h2 i hi).1
      · rw [AV.bulk]; omega
      · rw [AV.bulk]
        by_cases hi : i < ms.length
        · obtain ⟨_, e1, e2, e3⟩ := h2 i hi
          have := bulk_mem (getD_mem hi)
          exact ⟨by omega, by omega, fun j => by have := e3 j; omega⟩
        · rw [List.getD_eq_getElem?_getD, List.getElem?_eq_none (by omega)]
          exact ⟨Nat.zero_le _, Nat.zero_le _, fun j => Nat.zero_le _⟩
theorem texts_shape {n : Nat} {l : List AV} (h : Shp ap n 22 l) : ∃ v xs, l = [v] ∧ TxV xs v ∧ xs.length + 1 ≤ v.bulk ∧ ∀ i, (xs.getD i ⟨#[]⟩).size ≤ v.bulk := by
  cases n with
  | zero => exact h.elim
  | succ n =>
    simp only [Shp, t22] at h
    rcases h with rfl | ⟨ms, rfl, _, hm⟩
    · exact ⟨_, [], rfl, el_nil, by simp [AV.bulk], fun i => Nat.zero_le _⟩
    · obtain ⟨xs, h1, h2⟩ := all_of (⟨#[]⟩ : ByteArray) (Q := fun x m => m = [.str x]) (ms := ms) fun m hmm => str_shape (hm m hmm)
      have hl : ∀ m ∈ ms, m.length = 1 := fun m hmm => by obtain ⟨x, rfl⟩ := str_shape (hm m hmm); rfl
      have hb := bulk_len (ms := ms) fun m hmm => by obtain ⟨x, rfl⟩ := str_shape (hm m hmm); simp [bulks, AV.bulk]
      rw [row_of (by omega) hl]
      refine ⟨_, xs, rfl, ?_, ?_, fun i => ?_⟩
      · unfold TxV
        rw [h1]
        exact el_row (by omega) hl h2
      · rw [AV.bulk]; omega
      · rw [AV.bulk]
        by_cases hi : i < ms.length
        · have := bulk_mem (getD_mem hi)
          rw [h2 i hi] at this
          simp only [bulks, AV.bulk] at this
          omega
        · rw [List.getD_eq_getElem?_getD, List.getElem?_eq_none (by omega)]
          exact Nat.zero_le _
theorem inst_of : ∀ ms : List (List AV), (∀ m ∈ ms, ∃ x : Int × Int, m = [.int .i64 x.1, .int .i64 x.2]) → ∃ l, l.length = ms.length ∧ ms.flatten = icells l := by
  intro ms
  induction ms with
  | nil => exact fun _ => ⟨[], rfl, rfl⟩
  | cons m r ih =>
    intro h
    obtain ⟨x, rfl⟩ := h m (by simp)
    obtain ⟨l, h1, h2⟩ := ih fun m hm => h m (by simp [hm])
    exact ⟨x :: l, by simp [h1], by simp [icells, h2]⟩
theorem insts_shape {n : Nat} {l : List AV} (h : Shp ap n 44 l) : ∃ v c, l = [v] ∧ InsV c v ∧ c.length + 1 ≤ v.bulk := by
  cases n with
  | zero => exact h.elim
  | succ n =>
    simp only [Shp, t44] at h
    rcases h with rfl | ⟨ms, rfl, _, hm⟩
    · exact ⟨_, [], rfl, .inl ⟨rfl, rfl⟩, by simp [AV.bulk]⟩
    · have hel : ∀ m ∈ ms, ∃ x : Int × Int, m = [.int .i64 x.1, .int .i64 x.2] := fun m hmm => by
        have h := hm m hmm
        cases n with
        | zero => exact h.elim
        | succ n =>
          simp only [Shp, t43] at h
          obtain ⟨ps, rfl, hl, hp⟩ := h
          match ps, hl with
          | [p, q], _ =>
            obtain ⟨s, rfl⟩ := int_shape (hp 0 _ _ rfl rfl)
            obtain ⟨t, rfl⟩ := int_shape (hp 1 _ _ rfl rfl)
            exact ⟨(s, t), rfl⟩
      obtain ⟨c, h1, h2⟩ := inst_of ms hel
      have hl : ∀ m ∈ ms, m.length = 2 := fun m hmm => by obtain ⟨x, rfl⟩ := hel m hmm; rfl
      have hb := bulk_len (ms := ms) fun m hmm => by obtain ⟨x, rfl⟩ := hel m hmm; simp [bulks, AV.bulk]
      rw [row_of (by omega) hl]
      refine ⟨_, c, rfl, .inr ⟨[], .no, by rw [List.append_nil, h2, h1]⟩, ?_⟩
      rw [AV.bulk]
      omega
theorem codes_shape {n : Nat} {l : List AV} (h : Shp ap n 23 l) : ∃ v cs, l = [v] ∧ CdV cs v ∧ cs.length + 1 ≤ v.bulk ∧ ∀ i, (cs.getD i []).length ≤ v.bulk := by
  cases n with
  | zero => exact h.elim
  | succ n =>
    simp only [Shp, t23] at h
    rcases h with rfl | ⟨ms, rfl, _, hm⟩
    · exact ⟨_, [], rfl, el_nil, by simp [AV.bulk], fun i => Nat.zero_le _⟩
    · obtain ⟨cs, h1, h2⟩ := all_of ([] : List (Int × Int)) (Q := fun c m => ∃ w, m = [w] ∧ InsV c w ∧ c.length + 1 ≤ w.bulk) (ms := ms) fun m hmm => by
        obtain ⟨v, c, e1, e2, e3⟩ := insts_shape (hm m hmm)
        exact ⟨c, v, e1, e2, e3⟩
      have hl : ∀ m ∈ ms, m.length = 1 := fun m hmm => by obtain ⟨v, c, rfl, _⟩ := insts_shape (hm m hmm); rfl
      have hb := bulk_len (ms := ms) fun m hmm => by obtain ⟨v, c, rfl, _, hb⟩ := insts_shape (hm m hmm); simp only [bulks]; omega
      rw [row_of (by omega) hl]
      refine ⟨_, cs, rfl, ?_, ?_, fun i => ?_⟩
      · unfold CdV
        rw [h1]
        exact el_row (by omega) hl fun i hi => by obtain ⟨w, a, b, _⟩ := h2 i hi; exact ⟨w, a, b⟩
      · rw [AV.bulk]; omega
      · rw [AV.bulk]
        by_cases hi : i < ms.length
        · obtain ⟨w, a, b, c⟩ := h2 i hi
          have := bulk_mem (getD_mem hi)
          rw [a] at this
          simp only [bulks] at this
          omega
        · rw [List.getD_eq_getElem?_getD, List.getElem?_eq_none (by omega)]
          exact Nat.zero_le _

/-! ### Trees -/
theorem bulks_acells (ats : List (ByteArray × ByteArray)) : bulks (acells ats) = asz ats := by
  induction ats with
  | nil => rfl
  | cons x r ih => simp only [acells, bulks, AV.bulk, asz, ih]; omega
theorem atts_of : ∀ ms : List (List AV), (∀ m ∈ ms, ∃ x : ByteArray × ByteArray, m = [.str x.1, .str x.2]) → ∃ ats, ats.length = ms.length ∧ ms.flatten = acells ats := by
  intro ms
  induction ms with
  | nil => exact fun _ => ⟨[], rfl, rfl⟩
  | cons m r ih =>
    intro h
    obtain ⟨x, rfl⟩ := h m (by simp)
    obtain ⟨ats, h1, h2⟩ := ih fun m hm => h m (by simp [hm])
    exact ⟨x :: ats, by simp [h1], by simp [acells, h2]⟩
theorem att_shape {n : Nat} {l : List AV} (h : Shp ap n 45 l) : ∃ a ats, l = [a] ∧ AttV ats a ∧ asz ats + 1 ≤ a.bulk := by
  cases n with
  | zero => exact h.elim
  | succ n =>
    simp only [Shp, t45] at h
    rcases h with rfl | ⟨ms, rfl, _, hm⟩
    · exact ⟨_, [], rfl, .inl ⟨rfl, rfl⟩, by simp [asz, AV.bulk]⟩
    · obtain ⟨ats, h1, h2⟩ := atts_of ms fun m hmm => by
        have h := hm m hmm
        cases n with
        | zero => exact h.elim
        | succ n =>
          simp only [Shp, t117] at h
          obtain ⟨ps, rfl, hl, hp⟩ := h
          match ps, hl with
          | [p, q], _ =>
            obtain ⟨s, rfl⟩ := str_shape (hp 0 _ _ rfl rfl)
            obtain ⟨t, rfl⟩ := str_shape (hp 1 _ _ rfl rfl)
            exact ⟨(s, t), rfl⟩
      have hc := acells_len ats
      refine ⟨_, ats, rfl, ?_⟩
      rw [rowAV_at (by rw [h2, hc]; omega), h2, ← h1]
      refine ⟨.inr ⟨[], .no, by simp⟩, ?_⟩
      rw [AV.bulk, bulks_acells]
      exact Nat.le_refl _
def TreeCells (m : List AV) : Prop := ∃ tag text a k ats kids, m = [.str tag, .str text, a, k] ∧ AttV ats a ∧ asz ats + 1 ≤ a.bulk ∧ FoV kids k ∧ kids.sz + 1 ≤ k.bulk
theorem trees_of : ∀ ms : List (List AV), (∀ m ∈ ms, TreeCells m) → ∃ ts : Fo, ts.len = ms.length ∧ Row ts ms.flatten ∧ ts.sz ≤ bulks ms.flatten ∧ ms.flatten.length = 4 * ms.length := by
  intro ms
  induction ms with
  | nil => exact fun _ => ⟨.nil, rfl, trivial, by simp [Fo.sz], rfl⟩
  | cons m r ih =>
    intro h
    obtain ⟨tag, text, a, k, ats, kids, rfl, h1, h2, h3, h4⟩ := h m (by simp)
    obtain ⟨ts, k1, k2, k3, k4⟩ := ih fun m hm => h m (by simp [hm])
    refine ⟨.cons tag text ats kids ts, by simp [Fo.len, k1], ⟨a, k, r.flatten, rfl, h1, h3, k2⟩, ?_, ?_⟩
    · rw [List.flatten_cons, bulks_app]
      simp only [Fo.sz, bulks, AV.bulk]
      omega
    · rw [List.flatten_cons, List.length_append, k4]
      simp
      omega
theorem fo_shape : ∀ (n : Nat) (l : List AV), Shp ap n 24 l → ∃ v ts, l = [v] ∧ FoM ts v ∧ ts.sz + 1 ≤ v.bulk ∧ v.isCell = true ∧ ∀ row m k, v ≠ .is row m (.cut k) := by
  intro n
  induction n using Nat.strongRecOn with
  | ind n ih =>
    intro l h
    cases n with
    | zero => exact h.elim
    | succ n =>
      simp only [Shp, t24] at h
      rcases h with rfl | ⟨ms, rfl, _, hm⟩
      · exact ⟨_, .nil, rfl, .inl ⟨rfl, rfl⟩, by simp [Fo.sz, AV.bulk], rfl, fun _ _ _ h => by cases h⟩
      · obtain ⟨ts, h1, h2, h3, h4⟩ := trees_of ms fun m hmm => by
          have h := hm m hmm
          cases n with
          | zero => exact h.elim
          | succ n =>
            simp only [Shp, t47] at h
            obtain ⟨ps, rfl, hl, hp⟩ := h
            match ps, hl with
            | [p, q, r, s], _ =>
              obtain ⟨x, rfl⟩ := str_shape (hp 0 _ _ rfl rfl)
              obtain ⟨y, rfl⟩ := str_shape (hp 1 _ _ rfl rfl)
              obtain ⟨a, ats, rfl, ha, hb⟩ := att_shape (hp 2 _ _ rfl rfl)
              obtain ⟨k, kids, rfl, hk, hkb, _⟩ := ih n (by omega) _ (hp 3 _ _ rfl rfl)
              exact ⟨x, y, a, k, ats, kids, rfl, ha, hb, hk.fov, hkb⟩
        refine ⟨_, ts, rfl, ?_⟩
        rw [rowAV_at (by omega), ← h1]
        refine ⟨.inr ⟨_, _, rfl, ?_, h2⟩, ?_, rfl, fun _ _ _ h => by cases h⟩
        · show ms.flatten.length = ts.len * 4
          omega
        · rw [AV.bulk]
          omega

/-- A program that is read. -/
structure Read (p : PrA) (tx cd sx bl : AV) : Prop where
  hsm : Small p
  htx : TxV p.texts tx
  hcd : CdV p.codes cd
  hsx : FoM p.statics sx
  hbl : BlsV p.blocks bl
  hcut : ∀ row n m, sx ≠ .is row n (.cut m)
  hcell : sx.isCell = true
  hsz : p.statics.sz ≤ 1048576
theorem prog_shape {n : Nat} {l : List AV} (h : Shp ap n 27 l) (hb : bulks l ≤ 1048576) : ∃ p tx cd sx bl, l = [tx, cd, sx, bl] ∧ Read p tx cd sx bl := by
  cases n with
  | zero => exact h.elim
  | succ n =>
    simp only [Shp, t27] at h
    obtain ⟨ps, rfl, hl, hp⟩ := h
    match ps, hl with
    | [q0, q1, q2, q3], _ =>
      obtain ⟨tx, ts, rfl, a1, a2, a3⟩ := texts_shape (hp 0 _ _ rfl rfl)
      obtain ⟨cd, cs, rfl, b1, b2, b3⟩ := codes_shape (hp 1 _ _ rfl rfl)
      obtain ⟨sx, fo, rfl, c1, c2, c3, c4⟩ := fo_shape n _ (hp 2 _ _ rfl rfl)
      obtain ⟨bl, bs, rfl, d1, d2, d3⟩ := blocks_shape (hp 3 _ _ rfl rfl)
      have hbk : bulks ([[tx], [cd], [sx], [bl]].flatten) = tx.bulk + (cd.bulk + (sx.bulk + (bl.bulk + 0))) := rfl
      rw [hbk] at hb
      refine ⟨⟨ts, cs, fo, bs⟩, tx, cd, sx, bl, rfl, ⟨⟨?_, fun i => ?_, ?_, fun i => ?_, ?_, ?_, fun i => ⟨?_, ?_⟩, fun i j => ?_⟩, a1, b1, c1, d1, c4, c3, by show fo.sz ≤ _; omega⟩⟩
      · show ts.length ≤ _; omega
      · have := a3 i; show (ts.getD i ⟨#[]⟩).size ≤ _; omega
      · show cs.length ≤ _; omega
      · have := b3 i; show (cs.getD i []).length ≤ _; omega
      · show fo.sz ≤ _; omega
      · show bs.length ≤ _; omega
      · have := (d3 i).1; show (bs.getD i default).ops.length ≤ _; omega
      · have := (d3 i).2.1; show (bs.getD i default).upd.length ≤ _; omega
      · have := (d3 i).2.2 j; show ((bs.getD i default).ops.getD j default).l.length ≤ _; omega

theorem Read.verify {p : PrA} {tx cd sx bl : AV} (h : Read p tx cd sx bl) (st : Sto) : CallR ap 8 [.agg [tx, cd, sx, bl]] st = some (.ret (tup3 (verA p)), st) :=
  verify_spec h.hsm (fun row n m e => absurd e (h.hcut row n m)) h.htx h.hcd h.hsx (h.hbl.blv _ _) h.hcell

/-! ### Not too deep -/
theorem num_spec (a : Int) (st : Sto) : CallR ap 9 [.int .i64 a] st = some (.ret (.int .i64 a), st) := by
  rw [stencillaw0_Num.call]
  exact ret_keep (stencillaw0_Num.b_eq a st) rfl rfl (Keeps.refl _ _)
def ShalOk (ts : Fo) : Prop := ∀ (row : List AV) (n i d : Nat) (tok : Tok) (st : Sto), Row ts (row.drop (i * 4)) → n = i + ts.len → n ≤ 1050000 → 1 ≤ d → d ≤ 4096 →
  ∃ b, stencillaw0_trees.p110100 (.is row n tok) (d : Int) ((i : Nat) : Int) st = some ⟨.ret (.bool b), none, st⟩
theorem shal_of {ts : Fo} (H : ShalOk ts) {v : AV} (hv : FoV ts v) (hs : ts.sz ≤ 1050000) {d : Nat} (hd : d ≤ 4096) (st : Sto) : ∃ b, CallR ap 12 [v, .int .i64 (d : Int)] st = some (.ret (.bool b), st) := by
  suffices h : ∃ b, stencillaw0_trees.b v (d : Int) st = some ⟨.ret (.bool b), none, st⟩ by
    obtain ⟨b, h⟩ := h
    exact ⟨b, by rw [stencillaw0_trees.call]; exact ret_keep h rfl rfl (Keeps.refl _ _)⟩
  rw [stencillaw0_trees.b_eq]
  by_cases h0 : d = 0
  · subst h0
    simp only [Int.natCast_zero, decide_true, cond_true, hv.len, Option.bind_some]
    exact ⟨_, rfl⟩
  · have h0' : ¬ ((d : Int) = 0) := by omega
    simp only [h0', decide_false, cond_false]
    rcases hv with ⟨h0, rfl⟩ | ⟨row, tok, rfl, hr⟩
    · rw [stencillaw0_trees.p110100_eq]
      exact ⟨true, by simp [lenL]⟩
    · have hl := len_sz ts
      have := H row ts.len 0 d tok st (by simpa using hr) (by omega) (by omega) (by omega) hd
      simpa using this
theorem shal_all (ts : Fo) (hs : ts.sz ≤ 1050000) : ShalOk ts := by
  induction ts with
  | nil =>
    intro row n i d tok st hr hn hb h1 hd
    simp only [Fo.len] at hn
    rw [stencillaw0_trees.p110100_eq]
    have hlt : ¬ (((i : Nat) : Int) < ((n : Nat) : Int)) := by omega
    refine ⟨true, ?_⟩
    simp only [lenL, Option.bind_some, hlt, decide_false, cond_false]
  | cons tag text ats kids rest ihk ihr =>
    intro row n i d tok st hr hn hb h1 hd
    simp only [Fo.len] at hn
    simp only [Fo.sz] at hs
    obtain ⟨a, k, ha, hk, hr', hlen, hia⟩ := row_at hr
    have hia := hia n tok (by omega)
    have wi : IntKind.wrap .i64 ((i : Int) + 1) = ((i + 1 : Nat) : Int) := w64 _ (by omega) (by omega)
    have wd : IntKind.wrap .i64 ((d : Int) - 1) = ((d - 1 : Nat) : Int) := w64 _ (by omega) (by omega)
    have hlt : (((i : Nat) : Int) < ((n : Nat) : Int)) := by omega
    obtain ⟨b, hb'⟩ := shal_of (ihk (by omega)) hk (by omega) (d := d - 1) (by omega) st
    rw [stencillaw0_trees.p110100_eq]
    simp only [lenL, Option.bind_some, hlt, decide_true, cond_true, hia, f3, l1, wd, hb', Out.on, asB, wi]
    cases b with
    | false => exact ⟨false, rfl⟩
    | true => exact ihr (by omega) row n (i + 1) d tok st hr' (by omega) hb h1 hd
theorem shallow_spec {ts : Fo} {v : AV} (hv : FoV ts v) (hs : ts.sz ≤ 1050000) (st : Sto) : ∃ b, CallR ap 7 [v] st = some (.ret (.bool b), st) := by
  obtain ⟨b, h⟩ := shal_of (shal_all ts hs) hv hs (d := 4096) (by omega) st
  refine ⟨b, ?_⟩
  rw [stencillaw0_ShallowTrees.call]
  refine ret_keep ?_ rfl rfl (Keeps.refl _ _)
  rw [stencillaw0_ShallowTrees.b_eq]
  exact cr h

/-! ### awake -/
def swT : AV := .is [.str ⟨#[97]⟩, .str ⟨#[112]⟩] 2 .full
def swO : List AV := [.int .i64 3, .int .i64 1, .int .i64 0, .int .i64 0, .nils, .int .i64 1, .int .i64 0, .int .i64 0, .int .i64 0, .nils, .int .i64 6, .int .i64 0, .int .i64 0, .int .i64 0, .nils]
def swU : AV := .is [.int .i64 1] 1 .full
def swB (ov : AV) : AV := .is [.int .i64 1, ov, swU] 1 .no
theorem run1 : CallR ap 8 [.agg [swT, .nils, .nils, swB (.is swO 3 .full)]] [] = some (.ret (.tup [.int .i64 0, .int .i64 0, .int .i64 0]), []) := ev_call 100000 (by kernel_rfl)
theorem run2 : CallR ap 8 [.agg [swT, .nils, .nils, swB (.is swO 2 (.cut 3))]] [] = some (.ret (.tup [.int .i64 0, .int .i64 2, .int .i64 2204]), []) := ev_call 100000 (by kernel_rfl)
theorem run3 : CallR ap 8 [.agg [.nils, .nils, .nils, .nils]] [] = some (.ret (.tup [.int .i64 0, .int .i64 0, .int .i64 2205]), []) := ev_call 100000 (by kernel_rfl)
end Go.Proofs.YtcgepgahgihojaaDoor
