/- Forests joined. -/
import Derived.Test.YtjcpcglhjeoifaaDoorTM
namespace Go.Proofs.YtjcpcglhjeoifaaDoor
open Go.St Go.Lib
set_option linter.unusedVariables false
set_option linter.unusedSimpArgs false

def cat : Fo → Fo → Fo
  | .nil, b => b
  | .cons tag text ats kids rest, b => .cons tag text ats kids (cat rest b)
theorem cat_len (a b : Fo) : (cat a b).len = a.len + b.len := by
  induction a with
  | nil => simp [cat, Fo.len]
  | cons tag text ats kids rest ihk ihr => simp only [cat, Fo.len, ihr]; omega
theorem cat_sz (a b : Fo) : (cat a b).sz = a.sz + b.sz := by
  induction a with
  | nil => simp [cat, Fo.sz]
  | cons tag text ats kids rest ihk ihr => simp only [cat, Fo.sz, ihr]; omega
theorem copyRow_cat (a b : Fo) : copyRow (cat a b) = copyRow a ++ copyRow b := by
  induction a with
  | nil => rfl
  | cons tag text ats kids rest ihk ihr => simp only [cat, copyRow, ihr, List.cons_append, List.append_assoc]
theorem hb_cat (a b : Fo) : hb (cat a b) = hb a ++ hb b := by
  induction a with
  | nil => rfl
  | cons tag text ats kids rest ihk ihr => simp only [cat, hb, ihr, List.append_assoc]

/-- How many nodes. -/
def cn : Fo → Nat
  | .nil => 0
  | .cons _ _ _ kids rest => 1 + cn kids + cn rest
/-- May all nodes be? -/
noncomputable def al : Fo → Bool
  | .nil => true
  | .cons tag text ats kids rest => alone tag text ats kids && (al kids && al rest)
theorem cn_cat (a b : Fo) : cn (cat a b) = cn a + cn b := by
  induction a with
  | nil => simp [cat, cn]
  | cons tag text ats kids rest ihk ihr => simp only [cat, cn, ihr]; omega
theorem al_cat (a b : Fo) : al (cat a b) = (al a && al b) := by
  induction a with
  | nil => simp [cat, al]
  | cons tag text ats kids rest ihk ihr => simp only [cat, al, ihr, Bool.and_assoc]
theorem dp_cons (tag text : ByteArray) (ats : List (ByteArray × ByteArray)) (kids rest : Fo) : dp (.cons tag text ats kids rest) 0 = max (1 + dp kids 0) (dp rest 0) := by
  simp only [dp]
  rw [dp_max]
  omega
theorem dp_cat (a b : Fo) : dp (cat a b) 0 = max (dp a 0) (dp b 0) := by
  induction a with
  | nil => simp [cat, dp]
  | cons tag text ats kids rest ihk ihr => simp only [cat, dp_cons, ihr]; omega

theorem wk_ok (ts : Fo) : ∀ m d dm, 1 ≤ d → m + cn ts ≤ 4096 → al ts = true → (dp ts 0 = 0 ∨ d - 1 + dp ts 0 ≤ 64) → (wk ts m d dm).2.2 = 0 ∧ (wk ts m d dm).1 = m + cn ts := by
  induction ts with
  | nil => intro m d dm _ _ _ _; simp [wk, cn]
  | cons tag text ats kids rest ihk ihr =>
    intro m d dm hd hm ha hp
    simp only [al, Bool.and_eq_true] at ha
    simp only [cn] at hm
    rw [dp_cons] at hp
    have hf : fault m d tag text ats kids = 0 := by
      unfold fault
      rw [if_neg (by omega), if_neg (by omega), if_pos ha.1]
    obtain ⟨h1, h2⟩ := ihk (m + 1) (d + 1) (max dm d) (by omega) (by omega) ha.2.1 (by omega)
    obtain ⟨h3, h4⟩ := ihr (m + 1 + cn kids) d (wk kids (m + 1) (d + 1) (max dm d)).2.1 hd (by omega) ha.2.2 (by omega)
    simp only [wk, hf, h1, if_true, h2, h3, h4, cn, true_and]
    omega

theorem wk_inv (ts : Fo) : ∀ m d dm, 1 ≤ d → m ≤ 4096 → (wk ts m d dm).2.2 = 0 → m + cn ts ≤ 4096 ∧ al ts = true ∧ (dp ts 0 = 0 ∨ d - 1 + dp ts 0 ≤ 64) ∧ (wk ts m d dm).1 = m + cn ts := by
  induction ts with
  | nil => intro m d dm _ hm _; simp [wk, cn, al, dp, hm]
  | cons tag text ats kids rest ihk ihr =>
    intro m d dm hd hm h
    simp only [wk] at h ⊢
    by_cases hf : fault m d tag text ats kids = 0
    · have hf' := fault_le hf
      have hal : alone tag text ats kids = true := by
        unfold fault at hf
        rw [if_neg (by omega), if_neg (by omega)] at hf
        cases hx : alone tag text ats kids with
        | true => rfl
        | false => rw [hx] at hf; simp at hf
      simp only [hf, if_true] at h ⊢
      by_cases hz : (wk kids (m + 1) (d + 1) (max dm d)).2.2 = 0
      · simp only [hz, if_true] at h ⊢
        obtain ⟨a1, a2, a3, a4⟩ := ihk _ _ _ (by omega) (by omega) hz
        rw [a4] at h ⊢
        obtain ⟨b1, b2, b3, b4⟩ := ihr _ _ _ hd (by omega) h
        rw [b4, dp_cons]
        simp only [cn, al, hal, a2, b2, Bool.and_self, true_and]
        omega
      · simp only [hz, if_false] at h
    · simp only [hf, if_false] at h

theorem wk_deep (ts : Fo) : ∀ m d dm, 1 ≤ d → m + cn ts ≤ 4096 → al ts = true → dp ts 0 ≠ 0 → 64 < d - 1 + dp ts 0 → (wk ts m d dm).2.2 = 701 := by
  induction ts with
  | nil => intro m d dm _ _ _ h _; exact absurd rfl h
  | cons tag text ats kids rest ihk ihr =>
    intro m d dm hd hm ha h0 hp
    simp only [al, Bool.and_eq_true] at ha
    simp only [cn] at hm
    rw [dp_cons] at hp
    by_cases hdd : 64 < d
    · have hf : fault m d tag text ats kids = 701 := by
        unfold fault
        rw [if_neg (by omega), if_pos hdd]
      simp only [wk, hf, show ¬ (701 = 0) by omega, if_false]
    · have hf : fault m d tag text ats kids = 0 := by
        unfold fault
        rw [if_neg (by omega), if_neg hdd, if_pos ha.1]
      simp only [wk, hf, if_true]
      by_cases hk : dp kids 0 = 0 ∨ d + 1 - 1 + dp kids 0 ≤ 64
      · obtain ⟨h1, h2⟩ := wk_ok kids (m + 1) (d + 1) (max dm d) (by omega) (by omega) ha.2.1 hk
        simp only [h1, if_true, h2]
        exact ihr _ _ _ hd (by omega) ha.2.2 (by omega) (by omega)
      · have := ihk (m + 1) (d + 1) (max dm d) (by omega) (by omega) ha.2.1 (by omega) (by omega)
        simp only [this, show ¬ (701 = 0) by omega, if_false]

theorem look_ok {ts : Fo} (hc : cn ts ≤ 4096) (ha : al ts = true) (hd : dp ts 0 ≤ 64) : look ts = (cn ts, dp ts 0, 0) := by
  obtain ⟨h1, h2⟩ := wk_ok ts 0 1 0 (Nat.le_refl _) (by omega) ha (by omega)
  have h3 := wk_dp ts 0 1 0 h1 (Nat.le_refl _)
  have h4 : (wk ts 0 1 0).2.1 = dp ts 0 := by rw [h3]; split <;> omega
  unfold look
  rw [if_pos h1]
  exact Prod.ext (by rw [h2]; simp) (Prod.ext h4 h1)
theorem look_inv {ts : Fo} (h : (look ts).2.2 = 0) : cn ts ≤ 4096 ∧ al ts = true ∧ dp ts 0 ≤ 64 ∧ look ts = (cn ts, dp ts 0, 0) := by
  unfold look at h
  by_cases hz : (wk ts 0 1 0).2.2 = 0
  · obtain ⟨h1, h2, h3, h4⟩ := wk_inv ts 0 1 0 (Nat.le_refl _) (by omega) hz
    exact ⟨by omega, h2, by omega, look_ok (by omega) h2 (by omega)⟩
  · rw [if_neg hz] at h
    exact absurd h hz
theorem look_deep {ts : Fo} (hc : cn ts ≤ 4096) (ha : al ts = true) (hd : 64 < dp ts 0) : (look ts).2.2 = 701 := by
  have h := wk_deep ts 0 1 0 (Nat.le_refl _) (by omega) ha (by omega) (by omega)
  unfold look
  rw [if_neg (by omega)]
  exact h

theorem join_spec {a b : Fo} {x y : AV} {st1 st2 : Sto} (hx : CopyV 0 [] st1 a x) (hy : CopyV st1.length st1 st2 b y) (hs : a.sz + b.sz ≤ 1050000) : ∃ z st3, appL false false 4 80 x y st2 = some (z, st3) ∧ FoV (cat a b) z := by
  have la := len_sz a
  have lb := len_sz b
  have ht : tailOf false 4 st2 y = some (copyRow b, b.len) := by
    rcases hy with ⟨h, rfl, _⟩ | ⟨_, rfl, _⟩
    · rw [len_nil h]; rfl
    · simp only [tailOf, rowOf, copyRow_len, if_true, Option.bind_some, Bool.false_eq_true, if_false]
  have hr : Row (cat a b) (copyRow a ++ copyRow b) := by
    have := copyRow_row (cat a b) []
    rwa [List.append_nil, copyRow_cat] at this
  have hrm : ∀ n, n ≤ 1050000 → room 80 n = true := fun n hn => decide_eq_true (by omega)
  rcases hx with ⟨h, rfl, h1⟩ | ⟨h, rfl, h1⟩
  · obtain rfl := len_nil h
    by_cases h0 : b.len = 0
    · refine ⟨.nils, st2, ?_, .inl ⟨h0, rfl⟩⟩
      simp only [appL, ht, Option.bind_some, h0, if_true]
    · refine ⟨.is (copyRow b) b.len (.tip st2.length 0 4), st2 ++ [.tip 0], ?_, .inr ⟨_, _, rfl, hr⟩⟩
      simp only [appL, ht, Option.bind_some, h0, if_false, hrm b.len (by omega), if_true, Bool.false_eq_true]
  · have hst : st2[0]? = some (.tip 0) := by
      subst h1
      rcases hy with ⟨_, _, rfl⟩ | ⟨_, _, rfl⟩ <;> rfl
    refine ⟨.is (copyRow a ++ copyRow b) (cat a b).len (.tip 0 1 4), st2.set 0 (.tip 1), ?_, .inr ⟨_, _, rfl, hr⟩⟩
    simp only [appL, ht, Option.bind_some, copyRow_len, true_and, hrm (a.len + b.len) (by omega), if_true, hst, cat_len, List.length_nil]

def wrapQ (c : Fo) : Fo := .cons ⟨#[113]⟩ ⟨#[]⟩ [] c .nil
theorem q_lit {c : Fo} {z : AV} (hz : FoV c z) (st : Sto) :
    ∃ w, FoV (wrapQ c) w ∧ (aggA (fillA (fun i => ([(0, 1), (1, 1), (2, 1), (3, 1)] : List (Nat × Nat))[i]?) [.str ⟨#[]⟩, .str ⟨#[]⟩, .nils, .nils] [(0, (.str ⟨#[113]⟩)), (3, z)])) = some (.agg [.str ⟨#[113]⟩, .str ⟨#[]⟩, .nils, z]) ∧
      (litS false 1 4 (fillA (fun i => some (i * 4, 4)) [.str ⟨#[]⟩, .str ⟨#[]⟩, .nils, .nils] [(0, .agg [.str ⟨#[113]⟩, .str ⟨#[]⟩, .nils, z])]) st) = some (w, st) := by
  refine ⟨.is [.str ⟨#[113]⟩, .str ⟨#[]⟩, .nils, z] 1 .full, .inr ⟨_, _, rfl, .nils, z, [], rfl, .inl ⟨rfl, rfl⟩, hz, trivial⟩, ?_, ?_⟩
  · rcases hz with ⟨_, rfl⟩ | ⟨_, _, rfl, _⟩ <;> rfl
  · rcases hz with ⟨_, rfl⟩ | ⟨_, _, rfl, _⟩ <;> rfl

theorem alone_q (c : Fo) : alone ⟨#[113]⟩ ⟨#[]⟩ [] c = true := by
  have h1 : decide ((⟨#[113]⟩ : ByteArray) = ⟨#[]⟩) = false := by decide
  have h2 : wordB ⟨#[113]⟩ 45 = true := by decide
  unfold alone
  rw [h1, h2]
  simp [aOk]

theorem hb_q (c : Fo) : mk (hb (wrapQ c)) = ((⟨#[60, 113, 62]⟩ : ByteArray) ++ mk (hb c)) ++ (⟨#[60, 47, 113, 62]⟩ : ByteArray) := by
  have h1 : ¬ ((⟨#[113]⟩ : ByteArray) = ⟨#[]⟩) := by decide
  have e1 : (⟨#[60, 113, 62]⟩ : ByteArray) = mk [60, 113, 62] := rfl
  have e2 : (⟨#[60, 47, 113, 62]⟩ : ByteArray) = mk [60, 47, 113, 62] := rfl
  rw [e1, e2, mk_app, mk_app]
  simp [wrapQ, hb, h1, hbA]

theorem wrap_joins {c : Fo} {z : AV} (hz : FoV c z) (hs : c.sz ≤ 1048600) (hc : cn c ≤ 4095) (ha : al c = true) (hd : dp c 0 ≤ 64) (st : Sto) :
    stencillaw7_ForestJoins.p1111111101 z (.str (mk (hb c))) false st = some ⟨.ret (.bool true), none, st⟩ := by
  obtain ⟨w, hw, q1, q2⟩ := q_lit hz st
  have hsw : (wrapQ c).sz ≤ 1050000 := by
    have : (⟨#[113]⟩ : ByteArray).size = 1 := rfl
    have : (⟨#[]⟩ : ByteArray).size = 0 := rfl
    simp only [wrapQ, Fo.sz, asz]
    omega
  have hcq : cn (wrapQ c) = 1 + cn c := by simp [wrapQ, cn]
  have haq : al (wrapQ c) = true := by simp [wrapQ, al, alone_q, ha]
  have hdq : dp (wrapQ c) 0 = 1 + dp c 0 := by
    unfold wrapQ
    rw [dp_cons]
    simp [dp]
  have hl := look_ok (by omega) ha hd
  have hlen := hb_le c
  have hmk := mk_size (hb c)
  have z1 : (⟨#[60, 113, 62]⟩ : ByteArray).size = 3 := rfl
  have z2 : (⟨#[60, 47, 113, 62]⟩ : ByteArray).size = 4 := rfl
  have s1 : ByteArray.size (⟨#[60, 113, 62]⟩ : ByteArray) + ByteArray.size (mk (hb c)) ≤ 9223372036854775807 := by omega
  have s2 : ByteArray.size ((⟨#[60, 113, 62]⟩ : ByteArray) ++ mk (hb c)) + ByteArray.size (⟨#[60, 47, 113, 62]⟩ : ByteArray) ≤ 9223372036854775807 := by
    rw [ByteArray.size_append]
    omega
  rw [stencillaw7_ForestJoins.p1111111101_eq]
  by_cases h64 : 64 ≤ dp c 0
  · have hdeep := look_deep (ts := wrapQ c) (by omega) haq (by omega)
    have ho : htmlOut (wrapQ c) = .tup [.str ⟨#[]⟩, .int .i64 701] := by
      unfold htmlOut
      rw [if_neg (by omega), hdeep]
      rfl
    have hge : ((64 : Int) ≤ ((dp c 0 : Nat) : Int)) := by omega
    simp only [cond_false, q1, Option.bind_some, q2, html_spec hw hsw, ho, Out.on, ext, List.getElem?_cons_zero, List.getElem?_cons_succ, depth_spec hz (by omega), hl, asI, if_true, hge, decide_true, cond_true, num_spec]
  · have hlq := look_ok (ts := wrapQ c) (by omega) haq (by omega)
    have ho : htmlOut (wrapQ c) = .tup [.str (((⟨#[60, 113, 62]⟩ : ByteArray) ++ mk (hb c)) ++ (⟨#[60, 47, 113, 62]⟩ : ByteArray)), .int .i64 0] := by
      unfold htmlOut
      rw [hlq, if_pos rfl, hb_q]
    have hge : ¬ ((64 : Int) ≤ ((dp c 0 : Nat) : Int)) := by omega
    have w1 : IntKind.wrap .i64 (1 + ((cn c : Nat) : Int)) = ((1 + cn c : Nat) : Int) := w64 _ (by omega) (by omega)
    have w2 : IntKind.wrap .i64 (1 + ((dp c 0 : Nat) : Int)) = ((1 + dp c 0 : Nat) : Int) := w64 _ (by omega) (by omega)
    simp only [cond_false, q1, Option.bind_some, q2, html_spec hw hsw, ho, Out.on, ext, List.getElem?_cons_zero, List.getElem?_cons_succ, depth_spec hz (by omega), hl, asI, if_true, hge, decide_false, num_spec, decide_true, cond_true, asS, s1, s2,
      count_spec hw hsw, count_spec hz (by omega), depth_spec hw hsw, hlq, hcq, hdq, w1, w2]

theorem joins {a b : Fo} {v w : AV} (hv : FoV a v) (hw : FoV b w) (hs : a.sz + b.sz ≤ 1048600) : CallR ap 5 [v, w] [] = some (.ret (.bool true), []) := by
  have hsa : a.sz ≤ 1050000 := by omega
  have hsb : b.sz ≤ 1050000 := by omega
  obtain ⟨p, hp⟩ := shallow_spec hv hsa []
  obtain ⟨q, hq⟩ := shallow_spec hw hsb []
  suffices h : ∃ st', stencillaw7_ForestJoins.b v w [] = some ⟨.ret (.bool true), none, st'⟩ by
    obtain ⟨st', h1⟩ := h
    rw [stencillaw7_ForestJoins.call]
    exact ret_keep h1 rfl rfl ⟨Nat.zero_le _, fun i hi => absurd hi (Nat.not_lt_zero i)⟩
  have tru : stencillaw7_ForestJoins.p1101 v w true [] = some ⟨.ret (.bool true), none, []⟩ := by
    rw [stencillaw7_ForestJoins.p1101_eq]
    rfl
  obtain ⟨x, st1, hx, hcx⟩ := copyTrees_spec hv hsa []
  obtain ⟨y, st2, hy, hcy⟩ := copyTrees_spec hw hsb st1
  obtain ⟨z, st3, hz, hcz⟩ := join_spec hcx hcy (by omega)
  have hsz : (cat a b).sz ≤ 1048600 := by rw [cat_sz]; omega
  have hsz' : (cat a b).sz ≤ 1050000 := by omega
  have main : stencillaw7_ForestJoins.p1101 v w false [] = some ⟨.ret (.bool true), none, st3⟩ := by
    have triv : ∀ t8 t6 t10 t11 : AV, stencillaw7_ForestJoins.p111111101 v w z t6 t8 t10 t11 true st3 = some ⟨.ret (.bool true), none, st3⟩ := by
      intros
      rw [stencillaw7_ForestJoins.p111111101_eq]
      rfl
    have hoc : ∃ s e, htmlOut (cat a b) = .tup [.str s, .int .i64 e] := by
      unfold htmlOut
      split
      · exact ⟨_, _, rfl⟩
      · exact ⟨_, _, rfl⟩
    have oOf : ∀ ts : Fo, (look ts).2.2 ≠ 0 → htmlOut ts = .tup [.str ⟨#[]⟩, .int .i64 ((look ts).2.2 : Nat)] := fun ts h => by unfold htmlOut; rw [if_neg h]
    have oOk : ∀ ts : Fo, (look ts).2.2 = 0 → htmlOut ts = .tup [.str (mk (hb ts)), .int .i64 0] := fun ts h => by unfold htmlOut; rw [if_pos h]
    rw [stencillaw7_ForestJoins.p1101_eq]
    by_cases ha : (look a).2.2 = 0
    · by_cases hb' : (look b).2.2 = 0
      · obtain ⟨a1, a2, a3, a4⟩ := look_inv ha
        obtain ⟨b1, b2, b3, b4⟩ := look_inv hb'
        have wsum : IntKind.wrap .i64 (((cn a : Nat) : Int) + ((cn b : Nat) : Int)) = ((cn a + cn b : Nat) : Int) := w64 _ (by omega) (by omega)
        by_cases hlt : 4096 ≤ cn a + cn b
        · obtain ⟨s, e, hoc⟩ := hoc
          have hlt' : (4096 : Int) ≤ ((cn a + cn b : Nat) : Int) := by omega
          simp only [cond_false, hx, hy, Option.bind_some, Out.on, hz, html_spec hv hsa, html_spec hw hsb, html_spec hcz hsz', oOk a ha, oOk b hb', hoc, ext, List.getElem?_cons_zero, List.getElem?_cons_succ, num_spec, asI, if_true, decide_true, Bool.not_true, count_spec hv hsa, count_spec hw hsb, a4, b4, wsum, hlt', triv]
        · have hlt' : ¬ (4096 : Int) ≤ ((cn a + cn b : Nat) : Int) := by omega
          have c1 : cn (cat a b) ≤ 4095 := by rw [cn_cat]; omega
          have c2 : al (cat a b) = true := by rw [al_cat, a2, b2]; rfl
          have c3 : dp (cat a b) 0 ≤ 64 := by rw [dp_cat]; omega
          have hlc := look_ok (by omega) c2 c3
          have hzc : (look (cat a b)).2.2 = 0 := by rw [hlc]
          have wj := wrap_joins hcz hsz c1 c2 c3 st3
          have hmk : mk (hb (cat a b)) = mk (hb a) ++ mk (hb b) := by rw [hb_cat, mk_app]
          have l1 := hb_le a
          have l2 := hb_le b
          have m1 := mk_size (hb a)
          have m2 := mk_size (hb b)
          have s1 : ByteArray.size (mk (hb a)) + ByteArray.size (mk (hb b)) ≤ 9223372036854775807 := by omega
          have hmx : mxI ((dp a 0 : Nat) : Int) ((dp b 0 : Nat) : Int) = ((dp (cat a b) 0 : Nat) : Int) := by rw [mxI_nat, dp_cat]
          have hcc : ((cn (cat a b) : Nat) : Int) = ((cn a + cn b : Nat) : Int) := by rw [cn_cat]
          simp only [cond_false, hx, hy, Option.bind_some, Out.on, hz, html_spec hv hsa, html_spec hw hsb, html_spec hcz hsz', oOk a ha, oOk b hb', oOk _ hzc, ext, List.getElem?_cons_zero, List.getElem?_cons_succ, num_spec, asI, if_true, decide_true, Bool.not_true, count_spec hv hsa, count_spec hw hsb, a4, b4, wsum, hlt', decide_false]
          rw [stencillaw7_ForestJoins.p111111101_eq]
          simp only [cond_false, num_spec, Option.bind_some, Out.on, asI, asS, if_true, decide_true, Bool.not_true, s1, ← hmk, count_spec hcz hsz', count_spec hv hsa, count_spec hw hsb, depth_spec hcz hsz', depth_spec hv hsa, depth_spec hw hsb, a4, b4, hlc, wsum, hcc, hmx, wj]
      · have hnz : ¬ ((((look b).2.2 : Nat) : Int) = 0) := by omega
        obtain ⟨s, e, hoc⟩ := hoc
        simp only [cond_false, hx, hy, Option.bind_some, Out.on, hz, html_spec hv hsa, html_spec hw hsb, html_spec hcz hsz', oOk a ha, oOf b hb', hoc, ext, List.getElem?_cons_zero, List.getElem?_cons_succ, num_spec, asI, if_true, decide_true, Bool.not_true, hnz, decide_false, Bool.not_false, cond_true, triv]
    · have hnz : ¬ ((((look a).2.2 : Nat) : Int) = 0) := by omega
      have hob : ∃ s e, htmlOut b = .tup [.str s, .int .i64 e] := by
        unfold htmlOut
        split
        · exact ⟨_, _, rfl⟩
        · exact ⟨_, _, rfl⟩
      obtain ⟨s, e, hoc⟩ := hoc
      obtain ⟨s', e', hob⟩ := hob
      simp only [cond_false, hx, hy, Option.bind_some, Out.on, hz, html_spec hv hsa, html_spec hw hsb, html_spec hcz hsz', oOf a ha, hob, hoc, ext, List.getElem?_cons_zero, List.getElem?_cons_succ, num_spec, asI, if_true, hnz, decide_false, Bool.not_false, cond_true, triv]
  rw [stencillaw7_ForestJoins.b_eq]
  simp only [awake_spec, hp, hq, Option.bind_some, Out.on, asB, Bool.not_true, cond_false]
  cases p with
  | false => exact ⟨[], by simp only [Bool.not_false, cond_true, tru]⟩
  | true =>
    cases q with
    | false => exact ⟨[], by simp only [Bool.not_false, Bool.not_true, cond_false, tru]⟩
    | true => exact ⟨st3, by simp only [Bool.not_true, cond_false, main]⟩
end Go.Proofs.YtjcpcglhjeoifaaDoor
