/- Forests: how many nodes, how deep, the first fault. -/
import Derived.Test.YtcgepgahgihojaaDoorT
namespace Go.Proofs.YtcgepgahgihojaaDoor
open Go.St Go.Lib
set_option linter.unusedVariables false
set_option linter.unusedSimpArgs false

/-- Behind a call that turned an old object, which leads to nothing new. -/
theorem ret_set {b : Option Res} {v : AV} {st : Sto} {id : Nat} {o : Ob} {l : Sto} (h : b = some ⟨.ret v, none, st.set id o ++ l⟩) (hs : v.strip st.length = v) (ho : v.old st.length = true) (hoo : o.old st.length = true) :
    (b.bind fun r => some (gc st (r.out, r.st))) = some (.ret v, st.set id o) := by
  rw [h]
  simp only [Option.bind_some]
  have hc : (((Out.ret v).val.strip st.length).old st.length = true ∧ st.length ≤ (st.set id o ++ l).length ∧ Kept st.length st (st.set id o ++ l)) := by
    refine ⟨by simp only [Out.val, hs]; exact ho, by simp, fun i hi => ?_⟩
    rw [List.getElem?_append_left (by simpa using hi)]
    by_cases h : id = i
    · subst h
      exact .inr ⟨o, List.getElem?_set_self hi, hoo⟩
    · exact .inl (List.getElem?_set_ne h)
  have ht : (st.set id o ++ l).take st.length = st.set id o := by
    have : (st.set id o).length = st.length := by simp
    rw [← this, List.take_left]
  unfold gc
  rw [if_pos hc]
  simp only [Out.map, hs, ht]

theorem set_same {st : Sto} {id : Nat} {o : Ob} (h : st[id]? = some o) : st.set id o = st := by
  apply List.ext_getElem?
  intro i
  by_cases hi : id = i
  · subst hi
    rw [List.getElem?_set_self (List.getElem?_eq_some_iff.1 h).1, h]
  · rw [List.getElem?_set_ne hi]

theorem mxI_nat (a b : Nat) : mxI (a : Int) (b : Int) = ((max a b : Nat) : Int) := by
  unfold mxI
  omega

theorem sto_at {st : Sto} {id k : Nat} {cs : List AV} {x : AV} (h : st[id]? = some (.cells 0 cs 0)) (hk : k < cs.length) (hx : x.isCell = true) (hc : x.cells = [x]) : sto 1 st (.mp id 0 k) x = some (st.set id (.cells 0 (cs.set k x) 0)) := by
  have h1 : k + [x].length ≤ cs.length := hk
  have h2 : ([x]).all AV.isCell = true := by simp [hx]
  have h3 : splice cs k [x] = cs.set k x := by
    unfold splice
    rw [List.set_eq_take_append_cons_drop, if_pos hk]
    rfl
  unfold sto
  rw [hc, if_pos (show [x].length = 1 from rfl)]
  simp only [stCells, h, h1, h2, h3, Nat.zero_le, true_and, and_self, if_true]

noncomputable def fault (m d : Nat) (tag text : ByteArray) (ats : List (ByteArray × ByteArray)) (kids : Fo) : Nat :=
  if 4096 < m + 1 then 702 else if 64 < d then 701 else if alone tag text ats kids = true then 0 else 700

/-- Nodes, depth and fault behind a forest. -/
noncomputable def wk : Fo → Nat → Nat → Nat → Nat × Nat × Nat
  | .nil, m, _, dm => (m, dm, 0)
  | .cons tag text ats kids rest, m, d, dm =>
    if fault m d tag text ats kids = 0 then
      (if (wk kids (m + 1) (d + 1) (max dm d)).2.2 = 0 then wk rest (wk kids (m + 1) (d + 1) (max dm d)).1 d (wk kids (m + 1) (d + 1) (max dm d)).2.1 else wk kids (m + 1) (d + 1) (max dm d))
    else (m + 1, max dm d, fault m d tag text ats kids)

theorem fault_le {m d : Nat} {tag text : ByteArray} {ats : List (ByteArray × ByteArray)} {kids : Fo} (h : fault m d tag text ats kids = 0) : m + 1 ≤ 4096 ∧ d ≤ 64 := by
  unfold fault at h
  split at h
  · cases h
  · split at h
    · cases h
    · omega

theorem wk_le (ts : Fo) : ∀ m d dm, m ≤ 4096 → (wk ts m d dm).1 ≤ 4097 ∧ ((wk ts m d dm).2.2 = 0 → (wk ts m d dm).1 ≤ 4096) := by
  induction ts with
  | nil => intro m d dm h; simp only [wk]; omega
  | cons tag text ats kids rest ihk ihr =>
    intro m d dm h
    simp only [wk]
    by_cases hf : fault m d tag text ats kids = 0
    · have := fault_le hf
      have h1 := ihk (m + 1) (d + 1) (max dm d) (by omega)
      simp only [hf, if_true]
      by_cases he : (wk kids (m + 1) (d + 1) (max dm d)).2.2 = 0
      · simp only [he, if_true]
        exact ihr _ _ _ (h1.2 he)
      · simp only [he, if_false]
        exact ⟨h1.1, fun h => h.elim⟩
    · simp only [hf, if_false]
      exact ⟨by omega, fun h => h.elim⟩

def cnt (m dm e : Nat) : Ob := .cells 0 [.int .i64 (m : Nat), .int .i64 (dm : Nat), .int .i64 (e : Nat)] 0

def WalkOk (ts : Fo) : Prop := ∀ (row : List AV) (n i m d dm : Nat) (tok : Tok) (st : Sto) (id : Nat), Row ts (row.drop (i * 4)) → n = i + ts.len → ts.sz ≤ 1050000 → n ≤ 1050000 → m ≤ 4096 → d ≤ 65 → st[id]? = some (cnt m dm 0) →
  forest_walk.p10100 (.is row n tok) (d : Int) (.mp id 0 0) ((n : Nat) : Int) ((i : Nat) : Int) st =
    some ⟨.ret (.bool (decide ((wk ts m d dm).2.2 = 0))), none, st.set id (cnt (wk ts m d dm).1 (wk ts m d dm).2.1 (wk ts m d dm).2.2)⟩

theorem walk_of {ts : Fo} (H : WalkOk ts) {v : AV} (hv : FoV ts v) (hs : ts.sz ≤ 1050000) {m d dm : Nat} (hm : m ≤ 4096) (hd : d ≤ 65) {st : Sto} {id : Nat} (hst : st[id]? = some (cnt m dm 0)) :
    CallR ap 46 [v, .int .i64 (d : Int), .mp id 0 0] st = some (.ret (.bool (decide ((wk ts m d dm).2.2 = 0))), st.set id (cnt (wk ts m d dm).1 (wk ts m d dm).2.1 (wk ts m d dm).2.2)) := by
  rw [forest_walk.call]
  refine ret_set (l := []) ?_ rfl rfl rfl
  rw [forest_walk.b_eq, List.append_nil, hv.len]
  simp only [Option.bind_some]
  rcases hv with ⟨h0, rfl⟩ | ⟨row, tok, rfl, hr⟩
  · obtain rfl := len_nil h0
    rw [forest_walk.p10100_eq]
    have := set_same hst
    simp [Fo.len, wk, this]
  · have hl := len_sz ts
    have := H row ts.len 0 m d dm tok st id (by simpa using hr) (by omega) hs (by omega) hm hd hst
    simpa using this

theorem walk_all (ts : Fo) : WalkOk ts := by
  induction ts with
  | nil =>
    intro row n i m d dm tok st id hr hn hs hb hm hd hst
    simp only [Fo.len] at hn
    rw [forest_walk.p10100_eq]
    have := set_same hst
    have hlt : ¬ (((i : Nat) : Int) < ((n : Nat) : Int)) := by omega
    simp only [hlt, decide_false, cond_false, wk, this, decide_true]
  | cons tag text ats kids rest ihk ihr =>
    intro row n i m d dm tok st id hr hn hs hb hm hd hst
    simp only [Fo.len] at hn
    simp only [Fo.sz] at hs
    obtain ⟨a, k, ha, hk, hr', hlen, hia⟩ := row_at hr
    have hia := hia n tok (by omega)
    have hid := (List.getElem?_eq_some_iff.1 hst).1
    have hget : ∀ o : Ob, (st.set id o)[id]? = some o := fun o => List.getElem?_set_self hid
    have hss : ∀ o o' : Ob, (st.set id o).set id o' = st.set id o' := fun o o' => by rw [List.set_set]
    have c0 : ∀ (x y z : Nat) (s : Sto), s[id]? = some (cnt x y z) → ld false 1 s (.mp id 0 (0 + 0)) = some (.int .i64 (x : Nat)) := fun x y z s h => m_get h rfl
    have c1 : ∀ (x y z : Nat) (s : Sto), s[id]? = some (cnt x y z) → ld false 1 s (.mp id 0 (0 + 1)) = some (.int .i64 (y : Nat)) := fun x y z s h => m_get h rfl
    have c2 : ∀ (x y z : Nat) (s : Sto), s[id]? = some (cnt x y z) → ld false 1 s (.mp id 0 (0 + 2)) = some (.int .i64 (z : Nat)) := fun x y z s h => m_get h rfl
    have u0 : ∀ (x y z w : Nat), sto 1 (st.set id (cnt x y z)) (.mp id 0 (0 + 0)) (.int .i64 (w : Nat)) = some (st.set id (cnt w y z)) := fun x y z w => by
      exact (sto_at (k := 0) (cs := [.int .i64 (x : Nat), .int .i64 (y : Nat), .int .i64 (z : Nat)]) (hget (cnt x y z)) (by simp) rfl rfl).trans (by rw [hss]; rfl)
    have u1 : ∀ (x y z w : Nat), sto 1 (st.set id (cnt x y z)) (.mp id 0 (0 + 1)) (.int .i64 (w : Nat)) = some (st.set id (cnt x w z)) := fun x y z w => by
      exact (sto_at (k := 1) (cs := [.int .i64 (x : Nat), .int .i64 (y : Nat), .int .i64 (z : Nat)]) (hget (cnt x y z)) (by simp) rfl rfl).trans (by rw [hss]; rfl)
    have u2 : ∀ (x y z w : Nat), sto 1 (st.set id (cnt x y z)) (.mp id 0 (0 + 2)) (.int .i64 (w : Nat)) = some (st.set id (cnt x y w)) := fun x y z w => by
      exact (sto_at (k := 2) (cs := [.int .i64 (x : Nat), .int .i64 (y : Nat), .int .i64 (z : Nat)]) (hget (cnt x y z)) (by simp) rfl rfl).trans (by rw [hss]; rfl)
    have hu : sto 1 st (.mp id 0 (0 + 0)) (.int .i64 ((m + 1 : Nat) : Int)) = some (st.set id (cnt (m + 1) dm 0)) := by
      exact sto_at (k := 0) (cs := [.int .i64 (m : Nat), .int .i64 (dm : Nat), .int .i64 ((0 : Nat) : Int)]) hst (by simp) rfl rfl
    have wm : IntKind.wrap .i64 ((m : Int) + 1) = ((m + 1 : Nat) : Int) := w64 _ (by omega) (by omega)
    have wi : IntKind.wrap .i64 ((i : Int) + 1) = ((i + 1 : Nat) : Int) := w64 _ (by omega) (by omega)
    have nm : nilCk (.mp id 0 0) = some (.mp id 0 0) := rfl
    have a0 : fa 0 1 (.mp id 0 0) = some (.mp id 0 (0 + 0)) := rfl
    have a1 : fa 1 1 (.mp id 0 0) = some (.mp id 0 (0 + 1)) := rfl
    have a2 : fa 2 1 (.mp id 0 0) = some (.mp id 0 (0 + 2)) := rfl
    have hlt : (((i : Nat) : Int) < ((n : Nat) : Int)) := by omega
    -- behind the look at the node
    have mid : ∀ e : Nat, (e = 0 → m + 1 ≤ 4096 ∧ d ≤ 64) → e = fault m d tag text ats kids →
        forest_walk.p101001100111 (.is row n tok) (d : Int) (.mp id 0 0) ((i : Nat) : Int) ((n : Nat) : Int) ((i : Nat) : Int) (st.set id (cnt (m + 1) dm e)) =
          some ⟨.ret (.bool (decide ((wk (.cons tag text ats kids rest) m d dm).2.2 = 0))), none, st.set id (cnt (wk (.cons tag text ats kids rest) m d dm).1 (wk (.cons tag text ats kids rest) m d dm).2.1 (wk (.cons tag text ats kids rest) m d dm).2.2)⟩ := by
      intro e he hf
      rw [forest_walk.p101001100111_eq]
      have hu1 := u1 (m + 1) dm e (max dm d)
      simp only [nm, a0, a1, a2, Option.bind_some, c1 _ _ _ _ (hget (cnt (m + 1) dm e)), asI, if_true, mxI_nat, hu1, c2 _ _ _ _ (hget (cnt (m + 1) (max dm d) e))]
      by_cases h0 : e = 0
      · subst h0
        obtain ⟨hm1, hd1⟩ := he rfl
        have wd : IntKind.wrap .i64 ((d : Int) + 1) = ((d + 1 : Nat) : Int) := w64 _ (by omega) (by omega)
        have hwk := walk_of ihk hk (m := m + 1) (d := d + 1) (dm := max dm d) (by omega) hm1 (by omega) (hget (cnt (m + 1) (max dm d) 0))
        simp only [Int.natCast_zero, decide_true, Bool.not_true, cond_false, hia, f3, l1, Option.bind_some, wd, hwk, Out.on, asB, hss]
        rw [forest_walk.p10100110011111_eq, wi]
        simp only [wk, ← hf, if_true]
        by_cases hz : (wk kids (m + 1) (d + 1) (max dm d)).2.2 = 0
        · have hle := (wk_le kids (m + 1) (d + 1) (max dm d) hm1).2 hz
          simp only [hz, decide_true, Bool.not_true, cond_false, if_true]
          have := ihr row n (i + 1) (wk kids (m + 1) (d + 1) (max dm d)).1 d (wk kids (m + 1) (d + 1) (max dm d)).2.1 tok (st.set id (cnt (wk kids (m + 1) (d + 1) (max dm d)).1 (wk kids (m + 1) (d + 1) (max dm d)).2.1 0)) id hr' (by omega) (by omega) hb hle hd (hget _)
          rw [this, hss]
        · simp only [hz, decide_false, Bool.not_false, cond_true, if_false]
      · have hz : ¬ (((e : Nat) : Int) = 0) := by omega
        subst hf
        simp only [hz, decide_false, Bool.not_false, cond_true, forest_walk.p10100110011111_eq, wk, h0, if_false]
    rw [forest_walk.p10100_eq]
    have hc : cnt m dm 0 = cnt m dm 0 := rfl
    simp only [hlt, decide_true, cond_true, nm, a0, a1, a2, Option.bind_some, c0 _ _ _ _ hst, asI, if_true, wm, hu, c0 _ _ _ _ (hget (cnt (m + 1) dm 0))]
    by_cases h1 : 4096 < m + 1
    · have h1' : ((4096 : Int) < ((m + 1 : Nat) : Int)) := by omega
      have := u2 (m + 1) dm 0 702
      simp only [h1', decide_true, cond_true]
      rw [show ((702 : Int)) = ((702 : Nat) : Int) from rfl, this]
      exact mid 702 (by omega) (by unfold fault; rw [if_pos h1])
    · have h1' : ¬ ((4096 : Int) < ((m + 1 : Nat) : Int)) := by omega
      by_cases h2 : 64 < d
      · have h2' : ((64 : Int) < ((d : Nat) : Int)) := by omega
        have := u2 (m + 1) dm 0 701
        simp only [h1', h2', decide_true, decide_false, cond_true, cond_false]
        rw [show ((701 : Int)) = ((701 : Nat) : Int) from rfl, this]
        exact mid 701 (by omega) (by unfold fault; rw [if_neg h1, if_pos h2])
      · have h2' : ¬ ((64 : Int) < ((d : Nat) : Int)) := by omega
        simp only [h1', h2', decide_false, cond_false, hia, Option.bind_some, formed_spec (tag := tag) (text := text) ha hk (by omega) (by omega) (by omega), Out.on, asB]
        cases hal : alone tag text ats kids with
        | true =>
          simp only [Bool.not_true, cond_false]
          exact mid 0 (by omega) (by unfold fault; rw [if_neg h1, if_neg h2, if_pos hal])
        | false =>
          have := u2 (m + 1) dm 0 700
          simp only [Bool.not_false, cond_true]
          rw [show ((700 : Int)) = ((700 : Nat) : Int) from rfl, this]
          exact mid 700 (by omega) (by unfold fault; rw [if_neg h1, if_neg h2, if_neg (by rw [hal]; decide)])

/-- What is told of a forest: nodes, depth, fault; none where there is a fault. -/
noncomputable def look (ts : Fo) : Nat × Nat × Nat := if (wk ts 0 1 0).2.2 = 0 then wk ts 0 1 0 else (0, 0, (wk ts 0 1 0).2.2)

theorem looked_spec {ts : Fo} {v : AV} (hv : FoV ts v) (hs : ts.sz ≤ 1050000) (st : Sto) :
    CallR ap 31 [v] st = some (.ret (.agg [.int .i64 ((look ts).1 : Nat), .int .i64 ((look ts).2.1 : Nat), .int .i64 ((look ts).2.2 : Nat)]), st) := by
  have hlen : (st ++ [cnt 0 0 0]).length = st.length + 1 := by simp
  have hg : (st ++ [cnt 0 0 0] ++ [cnt 0 0 0])[st.length + 1]? = some (cnt 0 0 0) := by
    rw [List.getElem?_append_right (by simp)]
    simp
  have hw := walk_of (walk_all ts) hv hs (m := 0) (d := 1) (dm := 0) (by omega) (by omega) hg
  have hset : ∀ o : Ob, (st ++ [cnt 0 0 0] ++ [cnt 0 0 0]).set (st.length + 1) o = st ++ [cnt 0 0 0] ++ [o] := by
    intro o
    rw [List.set_append_right _ _ (by simp)]
    simp
  rw [hset] at hw
  have g1 : ∀ o : Ob, (st ++ [cnt 0 0 0] ++ [o])[st.length + 1]? = some o := by
    intro o
    rw [List.getElem?_append_right (by simp)]
    simp
  have g0 : ∀ o : Ob, (st ++ [cnt 0 0 0] ++ [o])[st.length]? = some (cnt 0 0 0) := by
    intro o
    rw [List.getElem?_append_left (by simp)]
    simp
  rw [forest_looked.call]
  suffices h : ∃ st', forest_looked.b v st = some ⟨.ret (.agg [.int .i64 ((look ts).1 : Nat), .int .i64 ((look ts).2.1 : Nat), .int .i64 ((look ts).2.2 : Nat)]), none, st'⟩ ∧ Keeps st.length st st' by
    obtain ⟨st', h1, h2⟩ := h
    exact ret_keep h1 rfl rfl h2
  rw [forest_looked.b_eq]
  have hc : (Ob.cells 0 [.int .i64 0, .int .i64 0, .int .i64 0] 0) = cnt 0 0 0 := rfl
  rw [hc, hlen]
  have hw' := hw
  rw [show (((1 : Nat) : Int)) = 1 from rfl] at hw'
  simp only [hw', Option.bind_some, Out.on, asB]
  have put : ∀ (s : Sto) (x y z : Nat), s[st.length]? = some (cnt 0 0 0) → sto 3 s (.mp st.length 0 0) (.agg [.int .i64 (x : Nat), .int .i64 (y : Nat), .int .i64 (z : Nat)]) = some (s.set st.length (cnt x y z)) := by
    intro s x y z h
    simp [sto, stCells, AV.cells, AV.isCell, cnt, splice] at h ⊢
    simp [h]
  have get3 : ∀ (s : Sto) (x y z : Nat), st.length < s.length → ld true 3 (s.set st.length (cnt x y z)) (.mp st.length 0 0) = some (.agg [.int .i64 (x : Nat), .int .i64 (y : Nat), .int .i64 (z : Nat)]) :=
    fun s x y z h => m_all (cs := [.int .i64 (x : Nat), .int .i64 (y : Nat), .int .i64 (z : Nat)]) (List.getElem?_set_self h) rfl
  have keep : ∀ (o o' : Ob), Keeps st.length st ((st ++ [cnt 0 0 0] ++ [o]).set st.length o') := by
    intro o o'
    refine Keeps.trans ?_ (Keeps.set (Nat.le_refl _))
    rw [List.append_assoc]
    exact Keeps.app (Nat.le_refl _)
  unfold look
  by_cases hz : (wk ts 0 1 0).2.2 = 0
  · simp only [hz, decide_true, Bool.not_true, cond_false, if_true]
    have e1 := m_all (g := 0) (n := 3) (g1 (cnt (wk ts 0 1 0).1 (wk ts 0 1 0).2.1 0)) rfl
    rw [e1]
    simp only [Option.bind_some]
    rw [put _ _ _ _ (g0 _)]
    simp only [Option.bind_some]
    rw [get3 _ _ _ _ (by simp)]
    exact ⟨_, rfl, keep _ _⟩
  · simp only [hz, decide_false, Bool.not_false, cond_true, if_false]
    have e1 := m_get (n := 2) (g := 0) (x := .int .i64 ((wk ts 0 1 0).2.2 : Nat)) (g1 (cnt (wk ts 0 1 0).1 (wk ts 0 1 0).2.1 (wk ts 0 1 0).2.2)) rfl
    rw [e1]
    simp only [Option.bind_some]
    have ef : (aggA (fillA (fun i => ([(0, 1), (1, 1), (2, 1)] : List (Nat × Nat))[i]?) [.int .i64 0, .int .i64 0, .int .i64 0] [(2, .int .i64 ((wk ts 0 1 0).2.2 : Nat))])) = some (.agg [.int .i64 ((0 : Nat) : Int), .int .i64 ((0 : Nat) : Int), .int .i64 ((wk ts 0 1 0).2.2 : Nat)]) := rfl
    rw [ef]
    simp only [Option.bind_some]
    rw [put _ _ _ _ (g0 _)]
    simp only [Option.bind_some]
    rw [get3 _ _ _ _ (by simp)]
    exact ⟨_, rfl, keep _ _⟩

section
variable {ts : Fo} {v : AV} (hv : FoV ts v) (hs : ts.sz ≤ 1050000) (st : Sto)
include hv hs
theorem check_spec : CallR ap 21 [v] st = some (.ret (.int .i64 ((look ts).2.2 : Nat)), st) := by
  rw [forest_Check.call]
  refine ret_keep ?_ rfl rfl (Keeps.refl _ _)
  rw [forest_Check.b_eq, looked_spec hv hs]
  rfl
theorem depth_spec : CallR ap 49 [v] st = some (.ret (.int .i64 ((look ts).2.1 : Nat)), st) := by
  rw [forest_Depth.call]
  refine ret_keep ?_ rfl rfl (Keeps.refl _ _)
  rw [forest_Depth.b_eq, looked_spec hv hs]
  rfl
end
end Go.Proofs.YtcgepgahgihojaaDoor
