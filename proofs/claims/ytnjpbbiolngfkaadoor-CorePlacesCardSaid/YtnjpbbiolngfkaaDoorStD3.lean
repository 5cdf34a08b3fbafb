/- Regions whose order is open: from the order of the text to every order. -/
import Derived.Test.YtnjpbbiolngfkaaDoorStD2
namespace Go.St
set_option linter.unusedVariables false
set_option linter.unusedSimpArgs false

section
variable {A : AProg} {C : Call} {nt : Note} {rid : Nat} {ops : Array Oper} {b : Array Nat} {R : Type}

open Classical in
theorem alike_some {w : Bool} {env : List AV} {o : Oper} {out : Out} {k : Option R} {r : R} : ∀ {l : List Sto}, alike A C w env o out k l = some r → k = some r ∧ ∀ s ∈ l, opR A C w (evA A env) o s = some (out, s) := by
  intro l
  induction l with
  | nil => intro h; exact ⟨h, by simp⟩
  | cons s l ih =>
    intro h
    simp only [alike, doOp_eq] at h
    obtain ⟨x, hx, h⟩ := Option.bind_eq_some_iff.1 h
    split at h
    · rename_i he
      obtain ⟨h1, h2⟩ := ih h
      refine ⟨h1, fun s' hs' => ?_⟩
      rcases List.mem_cons.1 hs' with rfl | hs'
      · rw [hx, ← he]
      · exact h2 s' hs'
    · cases h

open Classical in
theorem again_some {st : Sto} {k : Option R} {r : R} : ∀ {l : List Rd}, again A C nt rid st k l = some r → k = some r ∧ ∀ x ∈ l, opR A C (wrs nt rid x.i) (evA A x.env) x.o st = some (x.out, st) := by
  intro l
  induction l with
  | nil => intro h; exact ⟨h, by simp⟩
  | cons s l ih =>
    intro h
    simp only [again, doOp_eq] at h
    obtain ⟨x, hx, h⟩ := Option.bind_eq_some_iff.1 h
    split at h
    · rename_i he
      obtain ⟨h1, h2⟩ := ih h
      refine ⟨h1, fun s' hs' => ?_⟩
      rcases List.mem_cons.1 hs' with rfl | hs'
      · rw [hx, ← he]
      · exact h2 s' hs'
    · cases h

/-- One operation, in the order of the text: what it gives. -/
structure Stp (A : AProg) (C : Call) (nt : Note) (rid : Nat) (ops : Array Oper) (b : Array Nat) (i : Nat) (o : Oper) (d d' : DS) (v : AV) (act : Bool) : Prop where
  env : d'.env = put d.env o.dst v
  kind : (gv ops o d.env = some false ∧ v = .tup [] ∧ act = false ∧ d'.st = d.st ∧ d'.old = d.old ∧ d'.acts = d.acts ∧ d'.reads = d.reads) ∨
    (gv ops o d.env = some true ∧ kindOf nt rid i o = .pure ∧ act = false ∧ opR A C (wrs nt rid i) (evA A d.env) o d.st = some (.ret v, d.st) ∧ d'.st = d.st ∧ d'.old = d.old ∧ d'.acts = d.acts ∧ d'.reads = d.reads) ∨
    (gv ops o d.env = some true ∧ act = false ∧ opR A C (wrs nt rid i) (evA A d.env) o d.st = some (.ret v, d.st) ∧ (∀ s ∈ d.old.take (loose b i d.acts), opR A C (wrs nt rid i) (evA A d.env) o s = some (.ret v, s)) ∧
      d'.st = d.st ∧ d'.old = d.old ∧ d'.acts = d.acts ∧ d'.reads = ⟨i, d.env, o, .ret v⟩ :: d.reads) ∨
    (gv ops o d.env = some true ∧ act = true ∧ loose b i d.acts = 0 ∧ opR A C (wrs nt rid i) (evA A d.env) o d.st = some (.ret v, d'.st) ∧
      (∀ x ∈ d.reads, (b.getD i 0).testBit x.i = false → opR A C (wrs nt rid x.i) (evA A x.env) x.o d'.st = some (x.out, d'.st)) ∧
      d'.old = d.st :: d.old ∧ d'.acts = i :: d.acts ∧ d'.reads = d.reads)

open Classical in
theorem drawOp_some {o : Oper} {i : Nat} {d : DS} {k : DS → Option R} {r : R} (h : drawOp A C nt rid ops b o i d k = some r) : ∃ d' v act, k d' = some r ∧ Stp A C nt rid ops b i o d d' v act := by
  unfold drawOp at h
  rw [guardK_eq] at h
  obtain ⟨q, hq, h⟩ := Option.bind_eq_some_iff.1 h
  cases q with
  | false =>
    simp only [cond_false] at h
    exact ⟨_, _, false, h, rfl, .inl ⟨hq, rfl, rfl, rfl, rfl, rfl, rfl⟩⟩
  | true =>
    simp only [cond_true] at h
    cases hk : kindOf nt rid i o with
    | pure =>
      simp only [hk, doOp_eq] at h
      obtain ⟨⟨out, s⟩, hx, h⟩ := Option.bind_eq_some_iff.1 h
      obtain ⟨G, hG⟩ := opR_pure (A := A) hk (evA A d.env)
      rw [hG C d.st] at hx
      obtain ⟨v, hv, hx2⟩ := Option.map_eq_some_iff.1 hx
      cases hx2
      simp only [Out.on] at h
      exact ⟨_, v, false, h, rfl, .inr (.inl ⟨hq, hk, rfl, by rw [hG C d.st, hv]; rfl, rfl, rfl, rfl, rfl⟩)⟩
    | look =>
      simp only [hk, doOp_eq] at h
      obtain ⟨⟨out, s⟩, hx, h⟩ := Option.bind_eq_some_iff.1 h
      obtain rfl := opR_look hk hx
      cases out with
      | ret v =>
        simp only [Out.on] at h
        obtain ⟨h1, h2⟩ := alike_some h
        exact ⟨_, v, false, h1, rfl, .inr (.inr (.inl ⟨hq, rfl, hx, h2, rfl, rfl, rfl, rfl⟩))⟩
      | pan v => simp only [Out.on] at h; cases h
    | read =>
      simp only [hk, doOp_eq] at h
      obtain ⟨⟨out, s⟩, hx, h⟩ := Option.bind_eq_some_iff.1 h
      cases out with
      | ret v =>
        simp only [Out.on] at h
        split at h
        · rename_i hs
          subst hs
          obtain ⟨h1, h2⟩ := alike_some h
          exact ⟨_, v, false, h1, rfl, .inr (.inr (.inl ⟨hq, rfl, hx, h2, rfl, rfl, rfl, rfl⟩))⟩
        · cases h
      | pan v => simp only [Out.on] at h; cases h
    | act =>
      simp only [hk] at h
      cases hl : loose b i d.acts == 0 with
      | false => simp only [hl, cond_false] at h; cases h
      | true =>
        simp only [hl, cond_true, doOp_eq] at h
        obtain ⟨⟨out, s⟩, hx, h⟩ := Option.bind_eq_some_iff.1 h
        cases out with
        | ret v =>
          simp only [Out.on] at h
          obtain ⟨h1, h2⟩ := again_some h
          refine ⟨_, v, true, h1, rfl, .inr (.inr (.inr ⟨hq, rfl, by simpa using hl, hx, fun x hxm hb => h2 x ?_, rfl, rfl, rfl⟩))⟩
          simp only [List.mem_filter, hxm, hb, Bool.not_false, and_self]
        | pan v => simp only [Out.on] at h; cases h

/-- The order of the text, from operation i on. -/
theorem drawOps_some {k : DS → Option R} {r : R} : ∀ (l : List Oper) (i : Nat) (d : DS), drawOps A C nt rid ops b k l i d = some r →
    ∃ (D : Nat → DS) (V : Nat → AV) (X : Nat → Bool), D i = d ∧ k (D (i + l.length)) = some r ∧ ∀ j o, l[j]? = some o → Stp A C nt rid ops b (i + j) o (D (i + j)) (D (i + j + 1)) (V (i + j)) (X (i + j)) := by
  intro l
  induction l with
  | nil => intro i d h; exact ⟨fun _ => d, fun _ => .any, fun _ => false, rfl, h, fun j o hj => by simp at hj⟩
  | cons o l ih =>
    intro i d h
    simp only [drawOps] at h
    obtain ⟨d', v, act, h1, hs⟩ := drawOp_some h
    obtain ⟨D, V, X, h2, h3, h4⟩ := ih (i + 1) d' h1
    refine ⟨fun j => if j = i then d else D j, fun j => if j = i then v else V j, fun j => if j = i then act else X j, by simp, ?_, fun j o' hj => ?_⟩
    · have : ¬ i + (o :: l).length = i := by simp
      simp only [this, if_false]
      rw [show i + (o :: l).length = i + 1 + l.length by simp; omega]
      exact h3
    · cases j with
      | zero =>
        simp only [List.getElem?_cons_zero, Option.some.injEq] at hj
        subst hj
        simp only [Nat.add_zero, if_true]
        have : ¬ i + 1 = i := by omega
        simp only [this, if_false, h2]
        exact hs
      | succ j =>
        have e1 : ¬ i + (j + 1) = i := by omega
        have e2 : ¬ i + (j + 1) + 1 = i := by omega
        simp only [e1, e2, if_false]
        have := h4 j o' (by simpa using hj)
        rw [show i + (j + 1) = i + 1 + j by omega]
        exact this
end

/-! ### A trace -/
structure Trc (A : AProg) (C : Call) (nt : Note) (rid : Nat) (ops : Array Oper) (D : Nat → DS) (V : Nat → AV) (X : Nat → Bool) : Prop where
  stp : ∀ j o, ops[j]? = some o → Stp A C nt rid ops (Region.before ops) j o (D j) (D (j + 1)) (V j) (X j)
  old0 : (D 0).old = []
  acts0 : (D 0).acts = []
  reads0 : (D 0).reads = []
  edges : edgesOk ops = true
  slots : slotsOk ops (Region.before ops) = true

section
variable {A : AProg} {C : Call} {nt : Note} {rid : Nat} {ops : Array Oper} {D : Nat → DS} {V : Nat → AV} {X : Nat → Bool}

def dstOf (ops : Array Oper) (i : Nat) : Option Tmp := (ops[i]?).bind (·.dst)

/-- The slots, after these operations. -/
def envOf (ops : Array Oper) (V : Nat → AV) (e : List AV) (l : Nat → Bool) : Nat → List AV
  | 0 => e
  | n + 1 => if l n then put (envOf ops V e l n) (dstOf ops n) (V n) else envOf ops V e l n

theorem put_get {env : List AV} {dst : Option Tmp} {v : AV} {t : Nat} (h : dst ≠ some t) : (put env dst v)[t]? = env[t]? := by
  cases dst with
  | none => rfl
  | some d => simp only [put]; rw [List.getElem?_set_ne (by rintro rfl; exact h rfl)]
theorem put_comm {env : List AV} {d d' : Option Tmp} {v v' : AV} (h : ∀ t, d = some t → d' ≠ some t) : put (put env d v) d' v' = put (put env d' v') d v := by
  cases d with
  | none => rfl
  | some a =>
    cases d' with
    | none => rfl
    | some a' =>
      have : a ≠ a' := fun e => h a rfl (by rw [e])
      simp only [put]
      exact List.set_comm _ _ this

theorem envOf_len {e : List AV} {l : Nat → Bool} : ∀ n, (envOf ops V e l n).length = e.length := by
  intro n
  induction n with
  | zero => rfl
  | succ n ih =>
    simp only [envOf]
    split
    · rw [← ih]; cases dstOf ops n <;> simp [put]
    · exact ih

/-- Only those who write a slot matter for it. -/
theorem envOf_at {e : List AV} {t : Nat} {l l' : Nat → Bool} : ∀ n, (∀ i, i < n → dstOf ops i = some t → l i = l' i) → (envOf ops V e l n)[t]? = (envOf ops V e l' n)[t]? := by
  intro n
  induction n with
  | zero => intro _; rfl
  | succ n ih =>
    intro h
    have ih := ih fun i hi => h i (by omega)
    simp only [envOf]
    by_cases hd : dstOf ops n = some t
    · have hl := h n (by omega) hd
      rw [hl]
      split
      · have hlen := fun l => envOf_len (ops := ops) (V := V) (e := e) (l := l) n
        rw [hd]
        simp only [put]
        by_cases ht : t < e.length
        · rw [List.getElem?_set_self (by rw [hlen]; exact ht), List.getElem?_set_self (by rw [hlen]; exact ht)]
        · rw [List.getElem?_eq_none (by rw [List.length_set, hlen]; omega), List.getElem?_eq_none (by rw [List.length_set, hlen]; omega)]
      · exact ih
    · have e1 : (if l n = true then put (envOf ops V e l n) (dstOf ops n) (V n) else envOf ops V e l n)[t]? = (envOf ops V e l n)[t]? := by
        split
        · exact put_get hd
        · rfl
      have e2 : (if l' n = true then put (envOf ops V e l' n) (dstOf ops n) (V n) else envOf ops V e l' n)[t]? = (envOf ops V e l' n)[t]? := by
        split
        · exact put_get hd
        · rfl
      rw [e1, e2]
      exact ih

/-- One more. -/
theorem envOf_add {e : List AV} {l : Nat → Bool} {j : Nat} (hj : l j = false) : ∀ n, j < n → (∀ i, j < i → i < n → l i = true → ∀ t, dstOf ops j = some t → dstOf ops i ≠ some t) →
    envOf ops V e (fun i => if i = j then true else l i) n = put (envOf ops V e l n) (dstOf ops j) (V j) := by
  intro n
  induction n with
  | zero => intro h; omega
  | succ n ih =>
    intro hn h
    by_cases hnj : n = j
    · subst hnj
      have hlow : ∀ m, m ≤ n → envOf ops V e (fun i => if i = n then true else l i) m = envOf ops V e l m := by
        intro m
        induction m with
        | zero => intro _; rfl
        | succ m ihm =>
          intro hm
          have : ¬ m = n := by omega
          simp only [envOf, this, if_false, ihm (by omega)]
      simp only [envOf, if_true, hj, hlow n (Nat.le_refl _)]
      simp
    · have ih := ih (by omega) fun i hi hin => h i hi (by omega)
      simp only [envOf, hnj, if_false, ih]
      split
      · rename_i hl
        exact put_comm (h n (by omega) (by omega) hl)
      · rfl

/-! ### The acts, one behind the other -/
theorem Trc.env_eq (T : Trc A C nt rid ops D V X) : ∀ n, n ≤ ops.size → (D n).env = envOf ops V (D 0).env (fun _ => true) n := by
  intro n
  induction n with
  | zero => intro _; rfl
  | succ n ih =>
    intro h
    have hs := T.stp n _ (Array.getElem?_eq_getElem (show n < ops.size by omega))
    rw [hs.env, ih (by omega)]
    simp only [envOf, if_true, dstOf, Array.getElem?_eq_getElem (show n < ops.size by omega), Option.bind_some]

/-- Between acts the store stands. -/
theorem Trc.st_same (T : Trc A C nt rid ops D V X) {i : Nat} : ∀ j, i ≤ j → j ≤ ops.size → (∀ a, i ≤ a → a < j → X a = false) → (D j).st = (D i).st := by
  intro j
  induction j with
  | zero => intro h _ _; rw [show i = 0 by omega]
  | succ j ih =>
    intro h hj hx
    by_cases he : i = j + 1
    · rw [he]
    · have hs := T.stp j _ (Array.getElem?_eq_getElem (show j < ops.size by omega))
      have hX := hx j (by omega) (by omega)
      have : (D (j + 1)).st = (D j).st := by
        rcases hs.kind with h | h | h | h
        · exact h.2.2.2.1
        · exact h.2.2.2.2.1
        · exact h.2.2.2.2.1
        · rw [h.2.1] at hX; cases hX
      rw [this]
      exact ih (by omega) (by omega) fun a ha ha' => hx a ha (by omega)

/-- The acts that have been done before j. -/
theorem Trc.acts_mem (T : Trc A C nt rid ops D V X) : ∀ j, j ≤ ops.size → ∀ a, a ∈ (D j).acts ↔ a < j ∧ X a = true := by
  intro j
  induction j with
  | zero => intro _ a; rw [T.acts0]; simp
  | succ j ih =>
    intro h a
    have hs := T.stp j _ (Array.getElem?_eq_getElem (show j < ops.size by omega))
    have ih := ih (by omega) a
    rcases hs.kind with h | h | h | h
    · rw [h.2.2.2.2.2.1, ih]
      have hX := h.2.2.1
      constructor
      · rintro ⟨h1, h2⟩; exact ⟨by omega, h2⟩
      · rintro ⟨h1, h2⟩
        refine ⟨?_, h2⟩
        rcases Nat.lt_succ_iff_lt_or_eq.1 h1 with h3 | rfl
        · exact h3
        · rw [hX] at h2; cases h2
    · rw [h.2.2.2.2.2.2.1, ih]
      have hX := h.2.2.1
      constructor
      · rintro ⟨h1, h2⟩; exact ⟨by omega, h2⟩
      · rintro ⟨h1, h2⟩
        refine ⟨?_, h2⟩
        rcases Nat.lt_succ_iff_lt_or_eq.1 h1 with h3 | rfl
        · exact h3
        · rw [hX] at h2; cases h2
    · rw [h.2.2.2.2.2.2.1, ih]
      have hX := h.2.1
      constructor
      · rintro ⟨h1, h2⟩; exact ⟨by omega, h2⟩
      · rintro ⟨h1, h2⟩
        refine ⟨?_, h2⟩
        rcases Nat.lt_succ_iff_lt_or_eq.1 h1 with h3 | rfl
        · exact h3
        · rw [hX] at h2; cases h2
    · rw [h.2.2.2.2.2.2.1, List.mem_cons, ih]
      have hX := h.2.1
      constructor
      · rintro (rfl | ⟨h1, h2⟩)
        · exact ⟨by omega, hX⟩
        · exact ⟨by omega, h2⟩
      · rintro ⟨h1, h2⟩
        rcases Nat.lt_succ_iff_lt_or_eq.1 h1 with h3 | rfl
        · exact .inr ⟨h3, h2⟩
        · exact .inl rfl

/-- Each act waits for all acts ahead of it. -/
theorem Trc.chain (T : Trc A C nt rid ops D V X) {a j : Nat} (hj : j < ops.size) (hX : X j = true) (ha : a < j) (hXa : X a = true) : ((Region.before ops).getD j 0).testBit a = true := by
  have hs := T.stp j _ (Array.getElem?_eq_getElem hj)
  rcases hs.kind with h | h | h | h
  · rw [h.2.2.1] at hX; cases hX
  · rw [h.2.2.1] at hX; cases hX
  · rw [h.2.1] at hX; cases hX
  · have hl := h.2.2.1
    unfold loose at hl
    have hm := (T.acts_mem j (Nat.le_of_lt hj) a).2 ⟨ha, hXa⟩
    cases hb : ((Region.before ops).getD j 0).testBit a with
    | true => rfl
    | false =>
      have : a ∈ (D j).acts.filter fun a => !((Region.before ops).getD j 0).testBit a := List.mem_filter.2 ⟨hm, by rw [hb]; rfl⟩
      rw [List.eq_nil_of_length_eq_zero hl] at this
      cases this

/-- The store ahead of the first act from c on is among the newest of the old ones, as many as acts have been done since. -/
theorem Trc.old_at (T : Trc A C nt rid ops D V X) {c : Nat} : ∀ j, c ≤ j → j ≤ ops.size → (∃ a, c ≤ a ∧ a < j ∧ X a = true) → ∃ q, (D j).old[q]? = some (D c).st ∧ q + 1 ≤ ((D j).acts.filter fun a => decide (c ≤ a)).length := by
  intro j
  induction j with
  | zero => rintro h _ ⟨a, h1, h2, _⟩; omega
  | succ j ih =>
    rintro hcj hj ⟨a, h1, h2, h3⟩
    have hs := T.stp j _ (Array.getElem?_eq_getElem (show j < ops.size by omega))
    have same : (D (j + 1)).old = (D j).old → (D (j + 1)).acts = (D j).acts → X j = false → ∃ q, (D (j + 1)).old[q]? = some (D c).st ∧ q + 1 ≤ ((D (j + 1)).acts.filter fun a => decide (c ≤ a)).length := by
      intro e1 e2 e3
      rw [e1, e2]
      have : a ≠ j := by rintro rfl; rw [e3] at h3; cases h3
      exact ih (by omega) (by omega) ⟨a, h1, by omega, h3⟩
    rcases hs.kind with h | h | h | h
    · exact same h.2.2.2.2.1 h.2.2.2.2.2.1 h.2.2.1
    · exact same h.2.2.2.2.2.1 h.2.2.2.2.2.2.1 h.2.2.1
    · exact same h.2.2.2.2.2.1 h.2.2.2.2.2.2.1 h.2.1
    · obtain ⟨_, hX, _, _, _, e1, e2, _⟩ := h
      rw [e1, e2]
      have hc : c ≤ j := by omega
      by_cases hex : ∃ a, c ≤ a ∧ a < j ∧ X a = true
      · obtain ⟨q, hq, hl⟩ := ih hc (by omega) hex
        refine ⟨q + 1, by simpa using hq, ?_⟩
        simp only [List.filter_cons, hc, decide_true, if_true, List.length_cons]
        omega
      · refine ⟨0, ?_, ?_⟩
        · simp only [List.getElem?_cons_zero]
          rw [T.st_same (i := c) j hc (by omega) fun a ha ha' => by
            cases hX : X a with
            | false => rfl
            | true => exact absurd ⟨a, ha, ha', hX⟩ hex]
        · simp only [List.filter_cons, hc, decide_true, if_true, List.length_cons]
          omega

theorem Trc.reads_mem (T : Trc A C nt rid ops D V X) {i : Nat} {x : Rd} : ∀ j, i ≤ j → j ≤ ops.size → x ∈ (D i).reads → x ∈ (D j).reads := by
  intro j
  induction j with
  | zero => intro h _ hx; rwa [show i = 0 by omega] at hx
  | succ j ih =>
    intro h hj hx
    by_cases he : i = j + 1
    · rwa [he] at hx
    · have hs := T.stp j _ (Array.getElem?_eq_getElem (show j < ops.size by omega))
      have := ih (by omega) (by omega) hx
      rcases hs.kind with h | h | h | h
      · rw [h.2.2.2.2.2.2]; exact this
      · rw [h.2.2.2.2.2.2.2]; exact this
      · rw [h.2.2.2.2.2.2.2]; exact List.mem_cons_of_mem _ this
      · rw [h.2.2.2.2.2.2.2]; exact this

end
end Go.St
