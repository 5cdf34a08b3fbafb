/- Regions whose order is open: each order that binds comes to the same end. -/
import Derived.Test.YtnjpbbiolngfkaaDoorStD1
import Derived.Orders
namespace Go.St
set_option linter.unusedVariables false
set_option linter.unusedSimpArgs false

/-! ### What precedes an operation -/
def isOn (l : Array Bool) (i : Nat) : Prop := l.getD i false = true

def accB (acc : Array Nat) (o : Oper) : Nat := o.after.foldl (fun s e => if Region.binds .any e then s ||| 2 ^ e.on ||| acc.getD e.on 0 else s) 0

theorem accL_bit (acc : Array Nat) (k : Nat) : ∀ (es : List Edge) (s : Nat), (es.foldl (fun s e => if Region.binds .any e then s ||| 2 ^ e.on ||| acc.getD e.on 0 else s) s).testBit k = true →
    s.testBit k = true ∨ ∃ e ∈ es, Region.binds .any e = true ∧ (e.on = k ∨ (acc.getD e.on 0).testBit k = true) := by
  intro es
  induction es with
  | nil => intro s h; exact .inl h
  | cons e r ih =>
    intro s h
    simp only [List.foldl_cons] at h
    rcases ih _ h with h | ⟨e', he', h⟩
    · split at h
      · rename_i hb
        simp only [Nat.testBit_or, Bool.or_eq_true, Nat.testBit_two_pow, decide_eq_true_eq] at h
        rcases h with (h | h) | h
        · exact .inl h
        · exact .inr ⟨e, by simp, hb, .inl h⟩
        · exact .inr ⟨e, by simp, hb, .inr h⟩
      · exact .inl h
    · exact .inr ⟨e', by simp [he'], h⟩

def beforeL (acc : Array Nat) : List Oper → Array Nat
  | [] => acc
  | o :: r => beforeL (acc.push (accB acc o)) r
theorem before_eq (ops : Array Oper) : Region.before ops = beforeL #[] ops.toList := by
  unfold Region.before
  rw [← Array.foldl_toList]
  generalize (#[] : Array Nat) = acc
  induction ops.toList generalizing acc with
  | nil => rfl
  | cons o r ih => exact ih _
theorem beforeL_keep : ∀ (l : List Oper) (acc : Array Nat) (i : Nat), i < acc.size → (beforeL acc l).getD i 0 = acc.getD i 0 := by
  intro l
  induction l with
  | nil => intro acc i h; rfl
  | cons o r ih =>
    intro acc i h
    rw [beforeL, ih _ i (by simp; omega)]
    simp [Array.getD, h, Nat.lt_succ_of_lt h, Array.getElem_push_lt]
theorem beforeL_at : ∀ (l : List Oper) (acc : Array Nat) (j : Nat) (o : Oper), l[j]? = some o → ∃ acc', acc'.size = acc.size + j ∧ (beforeL acc l).getD (acc.size + j) 0 = accB acc' o ∧ ∀ i, i < acc.size + j → acc'.getD i 0 = (beforeL acc l).getD i 0 := by
  intro l
  induction l with
  | nil => intro acc j o h; simp at h
  | cons x r ih =>
    intro acc j o h
    cases j with
    | zero =>
      simp only [List.getElem?_cons_zero, Option.some.injEq] at h
      subst h
      refine ⟨acc, rfl, ?_, fun i hi => ?_⟩
      · rw [beforeL, Nat.add_zero, beforeL_keep _ _ _ (by simp)]
        simp [Array.getD]
      · rw [beforeL, beforeL_keep _ _ _ (by simp; omega)]
        simp [Array.getD, Nat.add_zero] at hi ⊢
        simp [hi, Nat.lt_succ_of_lt hi, Array.getElem_push_lt]
    | succ j =>
      obtain ⟨acc', h1, h2, h3⟩ := ih (acc.push (accB acc x)) j o (by simpa using h)
      simp only [Array.size_push] at h1 h2 h3
      refine ⟨acc', by omega, ?_, fun i hi => ?_⟩
      · rw [beforeL, show acc.size + (j + 1) = acc.size + 1 + j by omega]; exact h2
      · rw [beforeL]; exact h3 i (by omega)

/-- What an operation waits for, in the end: by its own edges, or by theirs. -/
theorem before_bit {ops : Array Oper} {i k : Nat} {o : Oper} (ho : ops[i]? = some o) (he : edgesOk ops = true) (h : ((Region.before ops).getD i 0).testBit k = true) :
    ∃ e ∈ o.after.toList, Region.binds .any e = true ∧ e.on < i ∧ (e.on = k ∨ ((Region.before ops).getD e.on 0).testBit k = true) := by
  rw [before_eq] at h ⊢
  have hi : i < ops.size := (Array.getElem?_eq_some_iff.1 ho).1
  obtain ⟨acc', h1, h2, h3⟩ := beforeL_at ops.toList #[] i o (by simpa using ho)
  simp only [List.size_toArray, List.length_nil, Nat.zero_add] at h1 h2 h3
  rw [h2] at h
  unfold accB at h
  rw [← Array.foldl_toList] at h
  rcases accL_bit acc' k _ 0 h with h | ⟨e, hm, hb, h⟩
  · simp at h
  · have hlt : e.on < i := by
      unfold edgesOk at he
      rw [List.all_eq_true] at he
      have := he i (by simpa using hi)
      simp only [ho, Array.all_eq_true_iff_forall_mem] at this
      have := this e (by simpa using hm)
      simpa [hb] using this
    refine ⟨e, hm, hb, hlt, h.imp_right fun h => ?_⟩
    rwa [h3 _ hlt] at h

/-- What is listed is listed with all that it waits for. -/
def Closed (ops : Array Oper) (l : Array Bool) : Prop := ∀ i o, ops[i]? = some o → isOn l i → ∀ e ∈ o.after.toList, Region.binds .any e = true → isOn l e.on

theorem Closed.before {ops : Array Oper} {l : Array Bool} (hc : Closed ops l) (he : edgesOk ops = true) : ∀ (i : Nat), i < ops.size → isOn l i → ∀ k, ((Region.before ops).getD i 0).testBit k = true → isOn l k := by
  intro i
  induction i using Nat.strongRecOn with
  | ind i ih =>
    intro hi hl k h
    obtain ⟨e, hm, hb, hlt, h⟩ := before_bit (Array.getElem?_eq_getElem hi) he h
    have hon := hc i _ (Array.getElem?_eq_getElem hi) hl e hm hb
    rcases h with rfl | h
    · exact hon
    · exact ih e.on hlt (by omega) hon k h

theorem ready_iff {ops : Array Oper} {l : Array Bool} {i : Nat} : i ∈ Region.ready .any ops l ↔ i < ops.size ∧ l.getD i true = false ∧ ∃ o, ops[i]? = some o ∧ ∀ e ∈ o.after.toList, Region.binds .any e = true → isOn l e.on := by
  unfold Region.ready
  simp only [List.mem_filter, List.mem_range, Bool.and_eq_true, Bool.not_eq_true']
  constructor
  · rintro ⟨h1, h2, h3⟩
    refine ⟨h1, h2, ops[i], Array.getElem?_eq_getElem h1, fun e hm hb => ?_⟩
    simp only [Array.getElem?_eq_getElem h1, Option.map_some, Option.getD_some, Array.all_eq_true_iff_forall_mem] at h3
    have := h3 e (by simpa using hm)
    simp only [hb, Bool.not_true, Bool.false_or] at this
    exact this
  · rintro ⟨h1, h2, o, ho, h⟩
    refine ⟨h1, h2, ?_⟩
    simp only [ho, Option.map_some, Option.getD_some, Array.all_eq_true_iff_forall_mem]
    intro e hm
    cases hb : Region.binds .any e with
    | false => simp
    | true =>
      simp only [Bool.not_true, Bool.false_or]
      exact h e (by simpa using hm) hb

/-- Where nothing may come up all has come up. -/
theorem ready_nil {ops : Array Oper} {l : Array Bool} (he : edgesOk ops = true) (hsz : l.size = ops.size) (h : Region.ready .any ops l = []) : ∀ i, i < ops.size → isOn l i := by
  intro i
  induction i using Nat.strongRecOn with
  | ind i ih =>
    intro hi
    by_cases hl : isOn l i
    · exact hl
    · exfalso
      have hm : i ∈ Region.ready .any ops l := by
        refine ready_iff.2 ⟨hi, ?_, ops[i], Array.getElem?_eq_getElem hi, fun e hm hb => ?_⟩
        · unfold isOn at hl
          have : i < l.size := by omega
          simp [Array.getD, this] at hl ⊢
          exact hl
        · unfold edgesOk at he
          rw [List.all_eq_true] at he
          have := he i (by simpa using hi)
          simp only [Array.getElem?_eq_getElem hi, Array.all_eq_true_iff_forall_mem] at this
          have := this e (by simpa using hm)
          have hlt : e.on < i := by simpa [hb] using this
          exact ih e.on hlt (by omega)
      rw [h] at hm
      cases hm

/-! ### Slots -/
/-- Two who name a slot, one of them its writer, stand in an order. -/
theorem slots_order {ops : Array Oper} {b : Array Nat} (h : slotsOk ops b = true) {i j : Nat} {oi oj : Oper} {t : Tmp} (hi : ops[i]? = some oi) (hd : oi.dst = some t) (hj : ops[j]? = some oj) (ht : t ∈ slotsOf ops oj) (hne : i ≠ j) :
    (b.getD (max i j) 0).testBit (min i j) = true := by
  unfold slotsOk at h
  rw [List.all_eq_true] at h
  have h1 := h i (by simpa using (Array.getElem?_eq_some_iff.1 hi).1)
  simp only [hi, Option.bind_some, hd] at h1
  rw [List.all_eq_true] at h1
  have h2 := h1 j (by simpa using (Array.getElem?_eq_some_iff.1 hj).1)
  simp only [hj, Bool.or_eq_true, beq_iff_eq, hne, false_or, Bool.not_eq_true'] at h2
  rcases h2 with h2 | h2
  · have : (slotsOf ops oj).contains t = true := by simpa using ht
    rw [this] at h2; cases h2
  · exact h2

/-- The guard's word. -/
def gv (ops : Array Oper) (o : Oper) (env : List AV) : Option Bool := match o.guard with
  | none => some true
  | some (j, want) => match (ops[j]?).bind (·.dst) with
    | none => some false
    | some t => match env[t]? with
      | some v => (guardT v).bind fun g => match g with
        | none => some false
        | some b => some (b == want)
      | none => some false

theorem set_same {α : Type} {l : List α} {t : Nat} {a : α} (h : l[t]? = some a) : l.set t a = l := by
  apply List.ext_getElem?
  intro i
  by_cases hi : t = i
  · subst hi
    rw [List.getElem?_set_self (List.getElem?_eq_some_iff.1 h).1, h]
  · rw [List.getElem?_set_ne hi]

theorem guardK_eq {R : Type} (ops : Array Oper) (o : Oper) (env : List AV) (yes no : List AV → Option R) : guardK ops o env yes no = (gv ops o env).bind fun q => bif q then yes env else no env := by
  unfold guardK gv
  cases o.guard with
  | none => rfl
  | some p =>
    obtain ⟨j, want⟩ := p
    simp only
    cases (ops[j]?).bind (·.dst) with
    | none => rfl
    | some t =>
      simp only
      cases he : env[t]? with
      | none => rfl
      | some v =>
        simp only
        unfold guardT
        split
        · rename_i b
          simp only [Option.bind_some, gOn]
          cases b <;> cases want <;> simp only [cond_true, cond_false, set_same he] <;> rfl
        · simp only [Option.bind_some, gOn, set_same he]; rfl
        · rfl

theorem gv_congr {ops : Array Oper} {o : Oper} {env env' : List AV} (h : ∀ t ∈ slotsOf ops o, env[t]? = env'[t]?) : gv ops o env = gv ops o env' := by
  unfold gv
  cases hg : o.guard with
  | none => rfl
  | some p =>
    obtain ⟨j, want⟩ := p
    simp only
    cases hd : (ops[j]?).bind (·.dst) with
    | none => rfl
    | some t =>
      simp only
      rw [h t (by unfold slotsOf; simp [hg, hd])]

theorem evA_congr {A : AProg} {ops : Array Oper} {o : Oper} {env env' : List AV} (h : ∀ t ∈ slotsOf ops o, env[t]? = env'[t]?) : ∀ x ∈ o.op.operands.toList, evA A env x = evA A env' x := by
  intro x hx
  cases x with
  | tmp t =>
    simp only [evA, List.getD_eq_getElem?_getD]
    rw [h t]
    unfold slotsOf
    simp only [List.mem_append, List.mem_filterMap]
    exact .inr (.inr ⟨.tmp t, hx, rfl⟩)
  | _ => rfl

end Go.St
