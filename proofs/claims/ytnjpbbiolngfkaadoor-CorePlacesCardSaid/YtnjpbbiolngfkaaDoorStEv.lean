/- The machine's run by evaluation: for calls whose arguments are given. -/
import Derived.Test.YtnjpbbiolngfkaaDoorStD1
import Derived.KernelRfl
namespace Go.St
set_option linter.unusedVariables false
set_option linter.unusedSimpArgs false

def tokEq : Tok → Tok → Bool
  | .no, .no => true
  | .full, .full => true
  | .tip a b c, .tip x y z => a == x && b == y && c == z
  | .cut n, .cut m => n == m
  | _, _ => false
theorem tokEq_sound {a b : Tok} (h : tokEq a b = true) : a = b := by
  cases a <;> cases b <;> simp_all [tokEq]

mutual
def avEq : AV → AV → Bool
  | .any, .any => true
  | .one, .one => true
  | .bool a, .bool b => a == b
  | .int k n, .int k' n' => decide (k = k') && decide (n = n')
  | .str s, .str t => decide (s = t)
  | .nilp, .nilp => true
  | .ip a, .ip b => avsEq a b
  | .mp i g o, .mp i' g' o' => i == i' && g == g' && o == o'
  | .nils, .nils => true
  | .is r n t, .is r' n' t' => avsEq r r' && n == n' && tokEq t t'
  | .ms a b c d e, .ms a' b' c' d' e' => a == a' && b == b' && c == c' && d == d' && e == e'
  | .nilm, .nilm => true
  | .mr i, .mr i' => i == i'
  | .fn f a b, .fn f' a' b' => decide (f = f') && avsEq a a' && avsEq b b'
  | .nilfn, .nilfn => true
  | .ifc t v, .ifc t' v' => t == t' && avEq v v'
  | .nili, .nili => true
  | .agg a, .agg b => avsEq a b
  | .tup a, .tup b => avsEq a b
  | .it i, .it i' => i == i'
  | .yl i, .yl i' => i == i'
  | _, _ => false
def avsEq : List AV → List AV → Bool
  | [], [] => true
  | a :: r, b :: s => avEq a b && avsEq r s
  | _, _ => false
end

mutual
theorem avEq_sound : ∀ (a b : AV), avEq a b = true → a = b
  | .any, b, h => by cases b <;> simp_all [avEq]
  | .one, b, h => by cases b <;> simp_all [avEq]
  | .bool _, b, h => by cases b <;> simp_all [avEq]
  | .int _ _, b, h => by cases b <;> simp_all [avEq]
  | .str _, b, h => by cases b <;> simp_all [avEq]
  | .nilp, b, h => by cases b <;> simp_all [avEq]
  | .ip a, b, h => by
    cases b with
    | ip b => rw [avsEq_sound a b (by simpa only [avEq] using h)]
    | _ => simp [avEq] at h
  | .mp _ _ _, b, h => by cases b <;> simp_all [avEq]
  | .nils, b, h => by cases b <;> simp_all [avEq]
  | .is r n t, b, h => by
    cases b with
    | is r' n' t' =>
      simp only [avEq, Bool.and_eq_true, beq_iff_eq] at h
      rw [avsEq_sound r r' h.1.1, h.1.2, tokEq_sound h.2]
    | _ => simp [avEq] at h
  | .ms _ _ _ _ _, b, h => by cases b <;> simp_all [avEq]
  | .nilm, b, h => by cases b <;> simp_all [avEq]
  | .mr _, b, h => by cases b <;> simp_all [avEq]
  | .fn f x y, b, h => by
    cases b with
    | fn f' x' y' =>
      simp only [avEq, Bool.and_eq_true, decide_eq_true_eq] at h
      rw [h.1.1, avsEq_sound x x' h.1.2, avsEq_sound y y' h.2]
    | _ => simp [avEq] at h
  | .nilfn, b, h => by cases b <;> simp_all [avEq]
  | .ifc t v, b, h => by
    cases b with
    | ifc t' v' =>
      simp only [avEq, Bool.and_eq_true, beq_iff_eq] at h
      rw [h.1, avEq_sound v v' h.2]
    | _ => simp [avEq] at h
  | .nili, b, h => by cases b <;> simp_all [avEq]
  | .agg a, b, h => by
    cases b with
    | agg b => rw [avsEq_sound a b (by simpa only [avEq] using h)]
    | _ => simp [avEq] at h
  | .tup a, b, h => by
    cases b with
    | tup b => rw [avsEq_sound a b (by simpa only [avEq] using h)]
    | _ => simp [avEq] at h
  | .it _, b, h => by cases b <;> simp_all [avEq]
  | .yl _, b, h => by cases b <;> simp_all [avEq]
theorem avsEq_sound : ∀ (a b : List AV), avsEq a b = true → a = b
  | [], b, h => by cases b <;> simp_all [avsEq]
  | x :: r, b, h => by
    cases b with
    | nil => simp [avsEq] at h
    | cons y s =>
      simp only [avsEq, Bool.and_eq_true] at h
      rw [avEq_sound x y h.1, avsEq_sound r s h.2]
end

def entsEq : List (AV × AV) → List (AV × AV) → Bool
  | [], [] => true
  | a :: r, b :: s => avEq a.1 b.1 && avEq a.2 b.2 && entsEq r s
  | _, _ => false
theorem entsEq_sound : ∀ {a b : List (AV × AV)}, entsEq a b = true → a = b := by
  intro a
  induction a with
  | nil => intro b h; cases b <;> simp_all [entsEq]
  | cons x r ih =>
    intro b h
    cases b with
    | nil => simp [entsEq] at h
    | cons y s =>
      simp only [entsEq, Bool.and_eq_true] at h
      rw [ih h.2, Prod.ext (avEq_sound _ _ h.1.1) (avEq_sound _ _ h.1.2)]
def obEq : Ob → Ob → Bool
  | .dead, .dead => true
  | .cells g cs z, .cells g' cs' z' => g == g' && z == z' && avsEq cs cs'
  | .tip g, .tip g' => g == g'
  | .bld s, .bld s' => decide (s = s')
  | .iter s p, .iter s' p' => p == p' && decide (s = s')
  | .map es, .map es' => entsEq es es'
  | _, _ => false
theorem obEq_sound {a b : Ob} (h : obEq a b = true) : a = b := by
  cases a <;> cases b <;> simp only [obEq, Bool.and_eq_true, beq_iff_eq, decide_eq_true_eq, Bool.false_eq_true] at h
  · rfl
  · rw [h.1.1, h.1.2, avsEq_sound _ _ h.2]
  · rw [h]
  · rw [h]
  · rw [h.1, h.2]
  · rw [entsEq_sound h]
def stoEq : Sto → Sto → Bool
  | [], [] => true
  | a :: r, b :: s => obEq a b && stoEq r s
  | _, _ => false
theorem stoEq_sound : ∀ {a b : Sto}, stoEq a b = true → a = b := by
  intro a
  induction a with
  | nil => intro b h; cases b <;> simp_all [stoEq]
  | cons x r ih =>
    intro b h
    cases b with
    | nil => simp [stoEq] at h
    | cons y s =>
      simp only [stoEq, Bool.and_eq_true] at h
      rw [ih h.2, obEq_sound h.1]
def outEq : Out → Out → Bool
  | .ret a, .ret b => avEq a b
  | .pan a, .pan b => avEq a b
  | _, _ => false
theorem outEq_sound {a b : Out} (h : outEq a b = true) : a = b := by
  cases a <;> cases b <;> simp only [outEq, Bool.false_eq_true] at h
  · rw [avEq_sound _ _ h]
  · rw [avEq_sound _ _ h]

def keptB (n : Nat) : Sto → Sto → Bool
  | [], _ => true
  | _ :: _, [] => false
  | a :: s, b :: t => (b.old n || obEq a b) && keptB n s t
theorem keptB_sound {n : Nat} : ∀ {s t : Sto}, keptB n s t = true → s.length ≤ t.length ∧ ∀ i, i < s.length → t[i]? = s[i]? ∨ ∃ o, t[i]? = some o ∧ o.old n = true := by
  intro s
  induction s with
  | nil => intro t _; exact ⟨Nat.zero_le _, fun i hi => absurd hi (Nat.not_lt_zero _)⟩
  | cons a s ih =>
    intro t h
    cases t with
    | nil => simp [keptB] at h
    | cons b t =>
      simp only [keptB, Bool.and_eq_true, Bool.or_eq_true] at h
      obtain ⟨h1, h2⟩ := ih h.2
      refine ⟨by simp; exact h1, fun i hi => ?_⟩
      cases i with
      | zero =>
        simp only [List.getElem?_cons_zero]
        rcases h.1 with h | h
        · exact .inr ⟨b, rfl, h⟩
        · exact .inl (by rw [obEq_sound h])
      | succ i =>
        simp only [List.getElem?_cons_succ]
        exact h2 i (by simpa using hi)

def gcB (st : Sto) (r : Out × Sto) : Option (Out × Sto) :=
  bif (r.1.val.strip st.length).old st.length then (bif keptB st.length st r.2 then some (r.1.map (AV.strip st.length), r.2.take st.length) else none) else some r
theorem gcB_sound {st : Sto} {r x : Out × Sto} (h : gcB st r = some x) : gc st r = x := by
  unfold gcB at h
  unfold gc
  cases ho : (r.1.val.strip st.length).old st.length with
  | false =>
    simp only [ho, cond_false, Option.some.injEq] at h
    rw [if_neg (by rintro ⟨h1, _⟩; cases h1), h]
  | true =>
    simp only [ho, cond_true] at h
    cases hk : keptB st.length st r.2 with
    | false => simp [hk] at h
    | true =>
      simp only [hk, cond_true, Option.some.injEq] at h
      obtain ⟨h1, h2⟩ := keptB_sound hk
      rw [if_pos ⟨rfl, h1, h2⟩, h]

section
variable {R : Type} {A : AProg}
def againB (A : AProg) (C : Call) (nt : Note) (rid : Nat) (st : Sto) (k : Option R) : List Rd → Option R
  | [] => k
  | r :: l => doOp A C (wrs nt rid r.i) (evA A r.env) r.o st fun out st' => bif outEq out r.out && stoEq st' st then againB A C nt rid st k l else none
def alikeB (A : AProg) (C : Call) (w : Bool) (env : List AV) (o : Oper) (out : Out) (k : Option R) : List Sto → Option R
  | [] => k
  | s :: l => doOp A C w (evA A env) o s fun out' s' => bif outEq out' out && stoEq s' s then alikeB A C w env o out k l else none
def drawOpB (A : AProg) (C : Call) (nt : Note) (rid : Nat) (ops : Array Oper) (b : Array Nat) (o : Oper) (i : Nat) (d : DS) (k : DS → Option R) : Option R :=
  guardK ops o d.env
    (fun env => match kindOf nt rid i o with
    | .pure => doOp A C (wrs nt rid i) (evA A env) o d.st fun out _ => out.on (fun v => k { d with env := put env o.dst v }) (fun _ => none)
    | .look => doOp A C (wrs nt rid i) (evA A env) o d.st fun out _ =>
        out.on (fun v => alikeB A C (wrs nt rid i) env o (.ret v) (k { d with env := put env o.dst v, reads := ⟨i, env, o, .ret v⟩ :: d.reads }) (d.old.take (loose b i d.acts))) (fun _ => none)
    | .read => doOp A C (wrs nt rid i) (evA A env) o d.st fun out st' =>
        out.on (fun v => bif stoEq st' d.st then alikeB A C (wrs nt rid i) env o (.ret v) (k { d with env := put env o.dst v, reads := ⟨i, env, o, .ret v⟩ :: d.reads }) (d.old.take (loose b i d.acts)) else none) (fun _ => none)
    | .act => bif loose b i d.acts == 0 then doOp A C (wrs nt rid i) (evA A env) o d.st fun out st' =>
        out.on (fun v => againB A C nt rid st' (k { d with env := put env o.dst v, st := st', old := d.st :: d.old, acts := i :: d.acts }) (d.reads.filter fun r => !(b.getD i 0).testBit r.i)) (fun _ => none)
      else none)
    (fun env => k { d with env := put env o.dst (.tup []) })
def drawOpsB (A : AProg) (C : Call) (nt : Note) (rid : Nat) (ops : Array Oper) (b : Array Nat) (k : DS → Option R) : List Oper → Nat → DS → Option R
  | [], _, d => k d
  | o :: r, i, d => drawOpB A C nt rid ops b o i d fun d' => drawOpsB A C nt rid ops b k r (i + 1) d'
def runDrawB (A : AProg) (C : Call) (nt : Note) (rid : Nat) (ops : Array Oper) (kn : List AV → Sto → Option R) (env : List AV) (st : Sto) : Option R :=
  bif edgesOk ops && slotsOk ops (Region.before ops) then
    drawOpsB A C nt rid ops (Region.before ops) (fun d => kn d.env d.st) ops.toList 0 { env := env, st := st, old := [], reads := [], acts := [] }
  else none

open Classical in
theorem againB_le {C : Call} {nt : Note} {rid : Nat} {st : Sto} {k k' : Option R} (hk : ∀ r, k = some r → k' = some r) {r : R} : ∀ {l : List Rd}, againB A C nt rid st k l = some r → again A C nt rid st k' l = some r := by
  intro l
  induction l with
  | nil => exact hk r
  | cons x l ih =>
    intro h
    simp only [againB, again, doOp_eq] at h ⊢
    obtain ⟨y, hy, h⟩ := Option.bind_eq_some_iff.1 h
    simp only [hy, Option.bind_some]
    cases hc : (outEq y.1 x.out && stoEq y.2 st) with
    | false => simp [hc] at h
    | true =>
      simp only [hc, cond_true] at h
      simp only [Bool.and_eq_true] at hc
      rw [if_pos (by rw [outEq_sound hc.1, stoEq_sound hc.2])]
      exact ih h
open Classical in
theorem alikeB_le {C : Call} {w : Bool} {env : List AV} {o : Oper} {out : Out} {k k' : Option R} (hk : ∀ r, k = some r → k' = some r) {r : R} : ∀ {l : List Sto}, alikeB A C w env o out k l = some r → alike A C w env o out k' l = some r := by
  intro l
  induction l with
  | nil => exact hk r
  | cons x l ih =>
    intro h
    simp only [alikeB, alike, doOp_eq] at h ⊢
    obtain ⟨y, hy, h⟩ := Option.bind_eq_some_iff.1 h
    simp only [hy, Option.bind_some]
    cases hc : (outEq y.1 out && stoEq y.2 x) with
    | false => simp [hc] at h
    | true =>
      simp only [hc, cond_true] at h
      simp only [Bool.and_eq_true] at hc
      rw [if_pos (by rw [outEq_sound hc.1, stoEq_sound hc.2])]
      exact ih h
open Classical in
theorem drawOpB_le {C : Call} {nt : Note} {rid : Nat} {ops : Array Oper} {b : Array Nat} {o : Oper} {i : Nat} {d : DS} {k k' : DS → Option R} (hk : ∀ d r, k d = some r → k' d = some r) {r : R} (h : drawOpB A C nt rid ops b o i d k = some r) : drawOp A C nt rid ops b o i d k' = some r := by
  unfold drawOpB at h
  unfold drawOp
  rw [guardK_eq'] at h ⊢
  obtain ⟨q, hq, h⟩ := Option.bind_eq_some_iff.1 h
  simp only [hq, Option.bind_some]
  obtain ⟨q, env⟩ := q
  cases q with
  | false => simp only [cond_false] at h ⊢; exact hk _ _ h
  | true =>
    simp only [cond_true] at h ⊢
    cases hkd : kindOf nt rid i o with
    | pure =>
      simp only [hkd, doOp_eq] at h ⊢
      obtain ⟨⟨out, s⟩, hx, h⟩ := Option.bind_eq_some_iff.1 h
      simp only [hx, Option.bind_some]
      cases out with
      | ret v => simp only [Out.on] at h ⊢; exact hk _ _ h
      | pan v => simp only [Out.on] at h; cases h
    | look =>
      simp only [hkd, doOp_eq] at h ⊢
      obtain ⟨⟨out, s⟩, hx, h⟩ := Option.bind_eq_some_iff.1 h
      simp only [hx, Option.bind_some]
      cases out with
      | ret v => simp only [Out.on] at h ⊢; exact alikeB_le (hk _) h
      | pan v => simp only [Out.on] at h; cases h
    | read =>
      simp only [hkd, doOp_eq] at h ⊢
      obtain ⟨⟨out, s⟩, hx, h⟩ := Option.bind_eq_some_iff.1 h
      simp only [hx, Option.bind_some]
      cases out with
      | ret v =>
        simp only [Out.on] at h ⊢
        cases hs : stoEq s d.st with
        | false => simp [hs] at h
        | true =>
          simp only [hs, cond_true] at h
          rw [if_pos (stoEq_sound hs)]
          exact alikeB_le (hk _) h
      | pan v => simp only [Out.on] at h; cases h
    | act =>
      simp only [hkd] at h ⊢
      cases hl : loose b i d.acts == 0 with
      | false => simp only [hl, cond_false] at h; cases h
      | true =>
        simp only [hl, cond_true, doOp_eq] at h ⊢
        obtain ⟨⟨out, s⟩, hx, h⟩ := Option.bind_eq_some_iff.1 h
        simp only [hx, Option.bind_some]
        cases out with
        | ret v => simp only [Out.on] at h ⊢; exact againB_le (hk _) h
        | pan v => simp only [Out.on] at h; cases h
theorem drawOpsB_le {C : Call} {nt : Note} {rid : Nat} {ops : Array Oper} {b : Array Nat} {k k' : DS → Option R} (hk : ∀ d r, k d = some r → k' d = some r) : ∀ (l : List Oper) (i : Nat) (d : DS) (r : R), drawOpsB A C nt rid ops b k l i d = some r → drawOps A C nt rid ops b k' l i d = some r := by
  intro l
  induction l with
  | nil => intro i d r h; exact hk _ _ h
  | cons o l ih =>
    intro i d r h
    simp only [drawOpsB] at h
    simp only [drawOps]
    exact drawOpB_le (fun d r h => ih (i + 1) d r h) h
theorem runDrawB_le {C : Call} {nt : Note} {rid : Nat} {ops : Array Oper} {kn : List AV → Sto → Option R} {kp : AV → Sto → Option R} {env : List AV} {st : Sto} {r : R} (h : runDrawB A C nt rid ops kn env st = some r) : runDraw A C nt rid ops kn kp env st = some r := by
  unfold runDrawB at h
  unfold runDraw
  cases hc : (edgesOk ops && slotsOk ops (Region.before ops)) with
  | false => simp [hc] at h
  | true =>
    simp only [hc, cond_true] at h ⊢
    exact drawOpsB_le (fun d r h => h) _ _ _ _ h
end

/-- A step, by evaluation. -/
noncomputable def stepB (A : AProg) (C : Call) (K : Kont) (c : Cfg) : Option Res := match c.todo with
  | .code p (.region rid ops true) :: t => bif A.draws then runDrawB A C (A.note c.f) rid ops (fun env' st' => K { c with todo := t, env := env', st := st' }) ((A.note c.f).keepAt p c.env) c.st else none
  | _ => stepF A C K c
theorem stepB_le {A : AProg} {C : Call} {K : Kont} {c : Cfg} {r : Res} (h : stepB A C K c = some r) : stepF A C K c = some r := by
  unfold stepB at h
  split at h
  · rename_i p rid ops t ht
    cases hd : A.draws with
    | false => simp [hd] at h
    | true =>
      simp only [hd, cond_true] at h
      obtain ⟨f, todo, env, dfr, rc, st⟩ := c
      simp only at ht
      subst ht
      simp only [stepF, hd, cond_true]
      exact runDrawB_le h
  · exact h

noncomputable def runB (A : AProg) : Nat → Kont
  | 0, _ => none
  | k + 1, c => stepB A (fun f args st => (entry A f args st).bind fun c' => (runB A k c').bind fun r => (match A.mode f with | 0 => gcB st (r.out, r.st) | 2 => some (r.out, r.st) | _ => none)) (runB A k) c
noncomputable def callB (A : AProg) (k : Nat) : Call := fun f args st => (entry A f args st).bind fun c' => (runB A k c').bind fun r => (match A.mode f with | 0 => gcB st (r.out, r.st) | 2 => some (r.out, r.st) | _ => none)

theorem callB_le {A : AProg} {k : Nat} (h : Kle (runB A k) (run A k)) : Call.le (callB A k) (callK A k) := by
  intro f a s r hr
  unfold callB at hr
  unfold callK
  obtain ⟨c, hc, hr⟩ := Option.bind_eq_some_iff.1 hr
  obtain ⟨x, hx, hr⟩ := Option.bind_eq_some_iff.1 hr
  simp only [hc, h c x hx, Option.bind_some, Option.some.injEq]
  match ht : A.mode f with
  | 0 =>
    rw [ht] at hr
    exact gcB_sound hr
  | 1 => rw [ht] at hr; cases hr
  | 2 =>
    rw [ht] at hr
    cases hr
    rfl
  | m + 3 => rw [ht] at hr; cases hr
theorem runB_le (A : AProg) : ∀ k, Kle (runB A k) (run A k) := by
  intro k
  induction k with
  | zero => intro c r h; simp [runB] at h
  | succ k ih =>
    intro c r h
    rw [runB] at h
    exact (cont_stepF A c).mono (callB_le ih) ih r (stepB_le h)

/-- A call whose arguments are given, by evaluation. -/
theorem ev_call {A : AProg} (k : Nat) {f : FuncId} {args : List AV} {st : Sto} {r : Out × Sto} (h : callB A k f args st = some r) : CallR A f args st = some r := callK_CallR A k f args st r (callB_le (runB_le A k) f args st r h)

end Go.St
