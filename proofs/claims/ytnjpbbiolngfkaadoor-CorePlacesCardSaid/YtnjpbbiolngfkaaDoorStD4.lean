/- Regions whose order is open: sound. -/
import Derived.Test.YtnjpbbiolngfkaaDoorStD3
import Derived.Test.YtnjpbbiolngfkaaDoorStS12
import Derived.OrdersIn
namespace Go.St
open Go.RowKit
set_option linter.unusedVariables false
set_option linter.unusedSimpArgs false

section
variable {A : AProg} {C : Call} {nt : Note} {rid : Nat} {ops : Array Oper} {D : Nat → DS} {V : Nat → AV} {X : Nat → Bool}

structure Inv (ops : Array Oper) (D : Nat → DS) (V : Nat → AV) (X : Nat → Bool) (l : Array Bool) (env : List AV) (st : Sto) : Prop where
  size : l.size = ops.size
  closed : Closed ops l
  env : env = envOf ops V (D 0).env (fun i => l.getD i false) ops.size
  cut : ∃ c, c ≤ ops.size ∧ (∀ a, a < ops.size → X a = true → (l.getD a false = true ↔ a < c)) ∧ st = (D c).st

theorem envOf_cut {e : List AV} {j : Nat} : ∀ n, envOf ops V e (fun i => decide (i < j)) n = envOf ops V e (fun _ => true) (min n j) := by
  intro n
  induction n with
  | zero => simp [envOf]
  | succ n ih =>
    simp only [envOf, ih]
    by_cases h : n < j
    · rw [show min (n + 1) j = n + 1 by omega, show min n j = n by omega]
      simp [envOf, h]
    · rw [show min (n + 1) j = min n j by omega]
      simp [h]

theorem last_act {j c : Nat} (h : ∃ a, j ≤ a ∧ a < c ∧ X a = true) : ∃ a, j ≤ a ∧ a < c ∧ X a = true ∧ ∀ a', a < a' → a' < c → X a' = false := by
  induction c with
  | zero => obtain ⟨a, _, h, _⟩ := h; omega
  | succ c ih =>
    obtain ⟨a, h1, h2, h3⟩ := h
    by_cases hc : X c = true
    · exact ⟨c, by omega, by omega, hc, fun a' h4 h5 => by omega⟩
    · have : a ≠ c := by rintro rfl; exact hc h3
      obtain ⟨a2, k1, k2, k3, k4⟩ := ih ⟨a, h1, by omega, h3⟩
      refine ⟨a2, k1, by omega, k3, fun a' h4 h5 => ?_⟩
      by_cases he : a' = c
      · subst he; simpa using hc
      · exact k4 a' h4 (by omega)

theorem getD_set (l : Array Bool) (j i : Nat) (hj : j < l.size) : (l.setIfInBounds j true).getD i false = if i = j then true else l.getD i false := by
  simp only [Array.getD_eq_getD_getElem?, Array.getElem?_setIfInBounds]
  by_cases h : j = i
  · subst h; simp [hj]
  · have : ¬ i = j := fun e => h e.symm
    simp [h, this]

theorem mem_len {α : Type} {l : List α} {q n : Nat} {a : α} (h : l[q]? = some a) (hq : q < n) : a ∈ l.take n := by
  have : (l.take n)[q]? = some a := by rw [List.getElem?_take, if_pos hq]; exact h
  exact List.mem_of_getElem? this

set_option maxHeartbeats 1000000 in
theorem inv_step (T : Trc A C nt rid ops D V X) {l : Array Bool} {env : List AV} {st : Sto} (hI : Inv ops D V X l env st) {j : Nat} (hr : j ∈ Region.ready .any ops l) : ∃ o, ops[j]? = some o ∧ j < ops.size ∧ l.getD j false = false ∧
    ((gv ops o env = some false ∧ Inv ops D V X (l.setIfInBounds j true) (put env o.dst (.tup [])) st) ∨
     (gv ops o env = some true ∧ ∃ st', opR A C (wrs nt rid j) (evA A env) o st = some (.ret (V j), st') ∧ Inv ops D V X (l.setIfInBounds j true) (put env o.dst (V j)) st')) := by
  obtain ⟨hj, hlj, o, ho, hedges⟩ := ready_iff.1 hr
  have hjl : j < l.size := by rw [hI.size]; exact hj
  have hlj' : l.getD j false = false := by
    simp only [Array.getD_eq_getD_getElem?, Array.getElem?_eq_getElem hjl, Option.getD_some] at hlj ⊢
    exact hlj
  have hbef : ∀ k, ((Region.before ops).getD j 0).testBit k = true → l.getD k false = true := by
    intro k hk
    obtain ⟨e, hm, hb, hlt, h⟩ := before_bit ho T.edges hk
    have hon := hedges e hm hb
    rcases h with rfl | h
    · exact hon
    · exact hI.closed.before T.edges e.on (by omega) hon k h
  have haft : ∀ i, i < ops.size → l.getD i false = true → ((Region.before ops).getD i 0).testBit j = false := by
    intro i hi hl
    cases hb : ((Region.before ops).getD i 0).testBit j with
    | false => rfl
    | true =>
      have := hI.closed.before T.edges i hi hl j hb
      unfold isOn at this
      rw [hlj'] at this; cases this
  have hs := T.stp j o ho
  have hslot : ∀ t ∈ slotsOf ops o, env[t]? = (D j).env[t]? := by
    intro t ht
    rw [hI.env, T.env_eq j (Nat.le_of_lt hj)]
    have e1 : envOf ops V (D 0).env (fun _ => true) j = envOf ops V (D 0).env (fun i => decide (i < j)) ops.size := by
      rw [envOf_cut, show min ops.size j = j by omega]
    rw [e1]
    refine envOf_at ops.size fun i hi hd => ?_
    by_cases hij : i = j
    · subst hij; rw [hlj']; simp
    · have hoi := Array.getElem?_eq_getElem hi
      have hd' : (ops[i]).dst = some t := by simpa [dstOf, hoi] using hd
      have hord := slots_order T.slots hoi hd' ho ht hij
      by_cases hlt : i < j
      · rw [show max i j = j by omega, show min i j = i by omega] at hord
        rw [hbef i hord]; simp [hlt]
      · rw [show max i j = i by omega, show min i j = j by omega] at hord
        have : l.getD i false = false := by
          cases hl : l.getD i false with
          | false => rfl
          | true => rw [haft i hi hl] at hord; cases hord
        rw [this]; simp [hlt]
  have hgv : gv ops o env = gv ops o (D j).env := gv_congr hslot
  have hop : ∀ s, opR A C (wrs nt rid j) (evA A env) o s = opR A C (wrs nt rid j) (evA A (D j).env) o s := fun s => opR_congr (evA_congr hslot) s
  have hclosed : Closed ops (l.setIfInBounds j true) := by
    intro i oi hoi hon e hm hb
    unfold isOn at hon ⊢
    rw [getD_set _ _ _ hjl] at hon ⊢
    split
    · rfl
    · split at hon
      · rename_i hij
        subst hij
        rw [hoi] at ho; cases ho
        exact hedges e hm hb
      · exact hI.closed i oi hoi hon e hm hb
  have henv : put env o.dst (V j) = envOf ops V (D 0).env (fun i => (l.setIfInBounds j true).getD i false) ops.size := by
    have e1 : (fun i => (l.setIfInBounds j true).getD i false) = fun i => if i = j then true else l.getD i false := funext fun i => getD_set l j i hjl
    rw [e1, envOf_add (l := fun i => l.getD i false) hlj' ops.size hj ?_, ← hI.env]
    · simp only [dstOf, ho, Option.bind_some]
    · intro i hij hi hl t hdj hdi
      have hoi := Array.getElem?_eq_getElem hi
      have hd' : (ops[i]).dst = some t := by simpa [dstOf, hoi] using hdi
      have hdj' : o.dst = some t := by simpa [dstOf, ho] using hdj
      have hord := slots_order T.slots hoi hd' ho (t := t) (by unfold slotsOf; simp [hdj']) (by omega)
      rw [show max i j = i by omega, show min i j = j by omega, haft i hi hl] at hord
      cases hord
  obtain ⟨c, hc, hcut, rfl⟩ := hI.cut
  have hcut' : X j = false → ∀ a, a < ops.size → X a = true → ((l.setIfInBounds j true).getD a false = true ↔ a < c) := by
    intro hX a ha hXa
    rw [getD_set _ _ _ hjl]
    have : ¬ a = j := by rintro rfl; rw [hX] at hXa; cases hXa
    simp only [this, if_false]
    exact hcut a ha hXa
  have mk : ∀ v s, v = V j → (∃ c, c ≤ ops.size ∧ (∀ a, a < ops.size → X a = true → ((l.setIfInBounds j true).getD a false = true ↔ a < c)) ∧ s = (D c).st) → Inv ops D V X (l.setIfInBounds j true) (put env o.dst v) s := by
    rintro v s rfl hcc
    exact ⟨by simp [hI.size], hclosed, henv, hcc⟩
  refine ⟨o, ho, hj, hlj', ?_⟩
  rw [hgv]
  rcases hs.kind with h | h | h | h
  · exact .inl ⟨h.1, mk _ _ h.2.1.symm ⟨c, hc, hcut' h.2.2.1, rfl⟩⟩
  · refine .inr ⟨h.1, (D c).st, ?_, mk _ _ rfl ⟨c, hc, hcut' h.2.2.1, rfl⟩⟩
    rw [hop]
    obtain ⟨G, hG⟩ := opR_pure (A := A) h.2.1 (evA A (D j).env)
    have h1 := h.2.2.2.1
    rw [hG] at h1 ⊢
    obtain ⟨v, hv, h2⟩ := Option.map_eq_some_iff.1 h1
    cases h2
    rw [hv]; rfl
  · obtain ⟨h1, hX, hread, hold, _, _, _, hrd⟩ := h
    refine .inr ⟨h1, (D c).st, ?_, mk _ _ rfl ⟨c, hc, hcut' hX, rfl⟩⟩
    rw [hop]
    by_cases hcj : c ≤ j
    · by_cases hex : ∃ a, c ≤ a ∧ a < j ∧ X a = true
      · obtain ⟨q, hq, hql⟩ := T.old_at j hcj (Nat.le_of_lt hj) hex
        refine hold _ (mem_len hq ?_)
        have : ((D j).acts.filter fun a => decide (c ≤ a)).length ≤ loose (Region.before ops) j (D j).acts := by
          unfold loose
          rw [← List.countP_eq_length_filter, ← List.countP_eq_length_filter]
          refine List.countP_mono_left fun a ha hca => ?_
          obtain ⟨haj, hXa⟩ := (T.acts_mem j (Nat.le_of_lt hj) a).1 ha
          have hca' : c ≤ a := by simpa using hca
          cases hb : ((Region.before ops).getD j 0).testBit a with
          | false => rfl
          | true =>
            have := (hcut a (by omega) hXa).1 (hbef a hb)
            omega
        omega
      · rw [← T.st_same (i := c) j hcj (Nat.le_of_lt hj) fun a ha ha' => by
          cases hX : X a with
          | false => rfl
          | true => exact absurd ⟨a, ha, ha', hX⟩ hex]
        exact hread
    · by_cases hex : ∃ a, j ≤ a ∧ a < c ∧ X a = true
      · obtain ⟨a, k1, k2, k3, k4⟩ := last_act hex
        have haj : a ≠ j := by rintro rfl; rw [hX] at k3; cases k3
        have han : a < ops.size := by omega
        rw [T.st_same (i := a + 1) c (by omega) hc fun a' h4 h5 => k4 a' (by omega) h5]
        have hsa := T.stp a _ (Array.getElem?_eq_getElem han)
        have hmem : (⟨j, (D j).env, o, .ret (V j)⟩ : Rd) ∈ (D a).reads := T.reads_mem (i := j + 1) a (by omega) (by omega) (by rw [hrd]; exact List.mem_cons_self)
        have hla : l.getD a false = true := (hcut a han k3).2 k2
        rcases hsa.kind with h | h | h | h
        · rw [h.2.2.1] at k3; cases k3
        · rw [h.2.2.1] at k3; cases k3
        · rw [h.2.1] at k3; cases k3
        · exact h.2.2.2.2.1 _ hmem (haft a han hla)
      · rw [T.st_same (i := j) c (by omega) hc fun a ha ha' => by
          cases hX : X a with
          | false => rfl
          | true => exact absurd ⟨a, ha, ha', hX⟩ hex]
        exact hread
  · obtain ⟨h1, hX, hloose, hact, _, _, _, _⟩ := h
    have hcj : c ≤ j := by
      have := hcut j hj hX
      rw [hlj'] at this
      by_cases h : j < c
      · have := this.2 h; cases this
      · omega
    have hst : (D c).st = (D j).st := (T.st_same (i := c) j hcj (Nat.le_of_lt hj) fun a ha ha' => by
      cases hXa : X a with
      | false => rfl
      | true =>
        have := (hcut a (by omega) hXa).1 (hbef a (T.chain hj hX ha' hXa))
        omega).symm
    refine .inr ⟨h1, (D (j + 1)).st, by rw [hop, hst]; exact hact, mk _ _ rfl ⟨j + 1, by omega, fun a ha hXa => ?_, rfl⟩⟩
    rw [getD_set _ _ _ hjl]
    by_cases haj : a = j
    · simp [haj]
    · simp only [haj, if_false]
      rw [hcut a ha hXa]
      constructor
      · intro h; omega
      · intro h
        have : a < j := by omega
        exact (hcut a ha hXa).1 (hbef a (T.chain hj hX this hXa))

theorem inv_end (T : Trc A C nt rid ops D V X) {l : Array Bool} {env : List AV} {st : Sto} (hI : Inv ops D V X l env st) (hr : Region.ready .any ops l = []) : env = (D ops.size).env ∧ st = (D ops.size).st := by
  have hall := ready_nil T.edges hI.size hr
  constructor
  · rw [hI.env, T.env_eq _ (Nat.le_refl _)]
    apply List.ext_getElem?
    intro t
    exact envOf_at _ fun i hi _ => hall i hi
  · obtain ⟨c, hc, hcut, rfl⟩ := hI.cut
    refine (T.st_same (i := c) ops.size hc (Nat.le_refl _) fun a ha ha' => ?_).symm
    cases hX : X a with
    | false => rfl
    | true =>
      have := (hcut a ha' hX).1 (hall a ha')
      omega

def cnt (l : Array Bool) : Nat → Nat
  | 0 => 0
  | n + 1 => cnt l n + if l.getD n false = true then 0 else 1
theorem cnt_set {l : Array Bool} {j : Nat} (hj : j < l.size) (hl : l.getD j false = false) : ∀ n, cnt (l.setIfInBounds j true) n + (if j < n then 1 else 0) = cnt l n := by
  intro n
  induction n with
  | zero => simp [cnt]
  | succ n ih =>
    simp only [cnt, getD_set _ _ _ hj]
    by_cases hn : n = j
    · subst hn
      simp only [hl, if_true, Nat.lt_irrefl, if_false] at ih ⊢
      simp at ih ⊢
      omega
    · simp only [hn, if_false]
      by_cases h : j < n
      · simp only [h, if_true] at ih
        simp only [show j < n + 1 by omega, if_true]
        omega
      · simp only [h, if_false] at ih
        simp only [show ¬ j < n + 1 by omega, if_false]
        omega
theorem cnt_pos {l : Array Bool} {j : Nat} (hl : l.getD j false = false) : ∀ n, j < n → 0 < cnt l n := by
  intro n
  induction n with
  | zero => intro h; omega
  | succ n ih =>
    intro h
    simp only [cnt]
    by_cases hn : n = j
    · subst hn; simp [hl]
    · have := ih (by omega); omega
theorem cnt_le (l : Array Bool) : ∀ n, cnt l n ≤ n := by
  intro n
  induction n with
  | zero => exact Nat.le_refl _
  | succ n ih => simp only [cnt]; split <;> omega
end

section
variable {P : Program} {A : AProg} {w0 : World} {R : Type}

theorem gv_sound {G : Gh} {ops : Array Oper} {o : Oper} {env : List AV} {dfr : List ADef} {a : Act} (hA : ActR G env dfr a) {q : Bool} (h : gv ops o env = some q) : Region.wanted o (yielded ops a.tmps) = q := by
  have hk : guardK ops o env (fun _ => some true) (fun _ => some false) = some q := by
    rw [guardK_eq, h]
    cases q <;> rfl
  rcases guard_sound hA hk with ⟨h1, _, _, h2⟩ | ⟨h1, _, _, h2⟩
  · cases h2; exact h1
  · cases h2; exact h1

theorem any_sound (hS : Sound P A w0) {C : Call} (hC : CallOk P A w0 C) (hI : CallIn A C) {nt : Note} {rid : Nat} {ops : Array Oper} {kn : List AV → Sto → Option R} {kp : AV → Sto → Option R} {r : R} {G0 : Gh} (hGl : GlobsR A G0) (ro : Option Nat) (dfr : List ADef)
    {D : Nat → DS} {V : Nat → AV} {X : Nat → Bool} (T : Trc A C nt rid ops D V X) (hk : kn (D ops.size).env (D ops.size).st = some r) :
    ∀ (n : Nat) (l : Array Bool) (env : List AV) (st : Sto) (G : Gh) (a : Act) (w : World), cnt l ops.size ≤ n → Inv ops D V X l env st → G0.le G → Rel A.bld A.u8 w0 G st w → ActR G env dfr a → wpAnyIn (WF ro) 0 P .any ops (RQ A w0 G0 dfr kn kp r) n l a w := by
  intro n
  have fin : ∀ (l : Array Bool) (env : List AV) (st : Sto) (G : Gh) (a : Act) (w : World), Inv ops D V X l env st → G0.le G → Rel A.bld A.u8 w0 G st w → ActR G env dfr a → Region.ready .any ops l = [] → RQ A w0 G0 dfr kn kp r .normal a w := by
    intro l env st G a w hi hG hR hA hr
    obtain ⟨rfl, rfl⟩ := inv_end T hi hr
    exact ⟨_, _, G, hG, hR, hA, hk⟩
  induction n with
  | zero =>
    intro l env st G a w hn hi hG hR hA
    have hr : Region.ready .any ops l = [] := by
      apply List.eq_nil_iff_forall_not_mem.2
      intro j hj
      obtain ⟨o, _, hjn, hlj, _⟩ := inv_step T hi hj
      have := cnt_pos hlj _ hjn
      omega
    exact ⟨hr, fin l env st G a w hi hG hR hA hr⟩
  | succ n ih =>
    intro l env st G a w hn hi hG hR hA
    refine ⟨fin l env st G a w hi hG hR hA, fun j hj => ?_⟩
    obtain ⟨o, ho, hjn, hlj, hstep⟩ := inv_step T hi hj
    have hcnt : cnt (l.setIfInBounds j true) ops.size ≤ n := by
      have := cnt_set (by rw [hi.size]; exact hjn) hlj ops.size
      simp only [hjn, if_true] at this
      omega
    unfold wpOpIn
    simp only [ho]
    rcases hstep with ⟨hg, hi'⟩ | ⟨hg, st', hop, hi'⟩
    · rw [gv_sound hA hg]
      simp only [Bool.false_eq_true, if_false]
      exact ⟨fun _ _ => trivial, ih _ _ _ G _ w hcnt hi' hG hR (hA.put _ (undef_VR G))⟩
    · rw [gv_sound hA hg]
      simp only [if_true]
      have hnd := doOp_noDefer hop
      obtain ⟨out, s, hx, hop⟩ := doOp_sound hS hC hI (hGl.mono hG) hR (evA_VR hA (hGl.mono hG)) hop
      cases hx
      refine upon_sound hA hnd hop (fun v x G' w' hx k1 k2 k3 => ?_) (fun v x G' w' hx k1 k2 k3 => by cases hx)
      cases hx
      exact ih _ _ _ G' _ w' hcnt hi' (hG.trans k1) k2 ((hA.mono k1).put _ k3)

theorem drawLaw (hS : Sound P A w0) : DrawLaw P A w0 := by
  intro ro C nt rid ops kn kp r G0 G env dfr st a w hC hI hGl hG hR hA h
  unfold runDraw at h
  cases hok : (edgesOk ops && slotsOk ops (Region.before ops)) with
  | false => simp only [hok, cond_false] at h; cases h
  | true =>
    simp only [hok, cond_true] at h
    simp only [Bool.and_eq_true] at hok
    obtain ⟨D, V, X, h1, h2, h3⟩ := drawOps_some _ _ _ h
    simp only [Nat.zero_add, Array.length_toList] at h2 h3
    have T : Trc A C nt rid ops D V X := ⟨fun j o ho => h3 j o (by simpa using ho), by rw [h1], by rw [h1], by rw [h1], hok.1, hok.2⟩
    have hl0 : ∀ i, (Array.replicate ops.size false).getD i false = false := by
      intro i
      simp only [Array.getD_eq_getD_getElem?, Array.getElem?_replicate]
      split <;> rfl
    refine any_sound hS hC hI hGl ro dfr T h2 ops.size _ env st G a _ (cnt_le _ _) ⟨by simp, fun i o ho hon => (by unfold isOn at hon; rw [hl0] at hon; cases hon), ?_, ⟨0, Nat.zero_le _, fun a ha hX => (by rw [hl0]; simp), (by rw [h1])⟩⟩ hG (rel_drawn hR _) hA
    rw [h1]
    simp only
    have : ∀ n, envOf ops V env (fun i => (Array.replicate ops.size false).getD i false) n = env := by
      intro n
      induction n with
      | zero => rfl
      | succ n ih =>
        have hn := hl0 n
        simp only [envOf]
        rw [if_neg (by rw [hn]; decide), ih]
    rw [this]
end
end Go.St
