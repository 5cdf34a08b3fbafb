/- Values: Check, Depth, Count, of the program and of the document. -/
import Derived.Test.YtiiooldjegoikaaDoorV
namespace Go.Proofs.YtiiooldjegoikaaDoor
open Go.St Go.Lib
set_option linter.unusedVariables false
set_option linter.unusedSimpArgs false

/-- What the store holds: what was there, and behind it a list. -/
structure Lay (old l S : Sto) : Prop where
  lo : ∀ i, i < old.length → S[i]? = old[i]?
  at_ : ∀ j, j < l.length → S[old.length + j]? = l[j]?
  len : old.length + l.length ≤ S.length

theorem Lay.init (old l : Sto) : Lay old l (old ++ l) := ⟨fun i hi => List.getElem?_append_left hi, fun j hj => by rw [List.getElem?_append_right (by omega)]; congr 1; omega, by simp⟩
theorem Lay.point {old l S S' : Sto} (h : Lay old l S) (hp : ∀ i, i < old.length + l.length → S'[i]? = S[i]?) (hl : old.length + l.length ≤ S'.length) : Lay old l S' :=
  ⟨fun i hi => (hp i (by omega)).trans (h.lo i hi), fun j hj => (hp _ (by omega)).trans (h.at_ j hj), hl⟩
theorem Lay.get {old l S : Sto} (h : Lay old l S) {j : Nat} {o : Ob} (hj : l[j]? = some o) : S[old.length + j]? = some o := by
  rw [h.at_ j (List.getElem?_eq_some_iff.1 hj).1, hj]
theorem Lay.set {old l S : Sto} (h : Lay old l S) (j : Nat) (hj : j < l.length) (o : Ob) : Lay old (l.set j o) (S.set (old.length + j) o) := by
  have hl := h.len
  refine ⟨fun i hi => ?_, fun k hk => ?_, by simpa using hl⟩
  · rw [List.getElem?_set_ne (by omega)]; exact h.lo i hi
  · rw [List.length_set] at hk
    by_cases hjk : j = k
    · subst hjk
      rw [List.getElem?_set_self (by omega), List.getElem?_set_self hj]
    · rw [List.getElem?_set_ne (by omega), List.getElem?_set_ne hjk]; exact h.at_ k hk

/-- Seen from a store: only that list was turned. -/
structure Now (old l S0 S : Sto) : Prop where
  lay : Lay old l S
  len : S.length = S0.length
  hi : ∀ i, old.length + l.length ≤ i → S[i]? = S0[i]?
theorem Now.refl {old l S : Sto} (h : Lay old l S) : Now old l S S := ⟨h, rfl, fun _ _ => rfl⟩
theorem Now.set {old l S0 S : Sto} (h : Now old l S0 S) (j : Nat) (hj : j < l.length) (o : Ob) : Now old (l.set j o) S0 (S.set (old.length + j) o) := by
  refine ⟨h.lay.set j hj o, by rw [List.length_set]; exact h.len, fun i hi => ?_⟩
  rw [List.length_set] at hi
  rw [List.getElem?_set_ne (by omega)]
  exact h.hi i hi

theorem sto_at {st : Sto} {id k : Nat} {cs : List AV} {x : AV} (h : st[id]? = some (.cells 0 cs 0)) (hk : k < cs.length) (hx : x.isCell = true) (hc : x.cells = [x]) : sto 1 st (.mp id 0 k) x = some (st.set id (.cells 0 (cs.set k x) 0)) := by
  have h1 : k + [x].length ≤ cs.length := hk
  have h2 : ([x]).all AV.isCell = true := by simp [hx]
  have h3 : splice cs k [x] = cs.set k x := by
    unfold splice
    rw [List.set_eq_take_append_cons_drop, if_pos hk]
    rfl
  unfold sto
  rw [hc, if_pos (show [x].length = 1 from rfl)]
  simp only [stCells, h, h1, h2, h3, Nat.zero_le, true_and, and_self, if_true]

theorem all_call (i : Nat) (k : Int) (S : Sto) : CallR ap 36 [.mp i 0 0, .int .i64 k] S = some (.ret (.fn (.func 54) [] [.mp S.length 0 0, .mp (S.length + 1) 0 0]), S ++ [.cells 0 [.mp i 0 0] 0, .cells 0 [.int .i64 k] 0]) := by
  have hc : (AV.cells (.mp i 0 0)).all AV.isCell = true := rfl
  rw [value_all.call, value_all.b_eq, if_pos hc]
  simp only [Option.bind_some]
  have e1 : (S ++ [Ob.cells 0 (AV.cells (.mp i 0 0)) 0]).length = S.length + 1 := by simp
  have e2 : (S ++ [Ob.cells 0 (AV.cells (.mp i 0 0)) 0]) ++ [Ob.cells 0 [.int .i64 k] 0] = S ++ [.cells 0 [.mp i 0 0] 0, .cells 0 [.int .i64 k] 0] := by simp [AV.cells]
  rw [e1, e2]
  unfold gc
  rw [if_neg]
  rintro ⟨h, _⟩
  simp [Out.val, AV.strip, strips, AV.old, olds] at h

theorem range_all (c0 c1 : AV) (m : Nat) (S : Sto) : rangeA ap (CallR ap) (.fn (.func 54) [] [c0, c1]) [.yl m] S = CallR ap 54 [.yl m, c0, c1] S := rfl

/-- The call that goes through all: behind it what was laid, and no more is asked. -/
theorem all1_call {c0 c1 : AV} {m : Nat} {S st' old l : Sto} (h : value_all_1.b (.yl m) c0 c1 S = some ⟨.ret (.tup []), none, st'⟩) (hl : Lay old l st') (hS : old.length + l.length ≤ S.length) :
    ∃ st'', CallR ap 54 [.yl m, c0, c1] S = some (.ret (.tup []), st'') ∧ Lay old l st'' := by
  rw [value_all_1.call, h]
  simp only [Option.bind_some]
  unfold gc
  split
  · refine ⟨st'.take S.length, rfl, hl.point (fun i hi => ?_) ?_⟩
    · rw [List.getElem?_take, if_pos (by omega)]
    · rw [List.length_take]
      have := hl.len
      omega
  · exact ⟨st', rfl, hl⟩

/-! ### Check -/
noncomputable def fault (c d : Nat) (h : Hd) (m : Nat) : Nat := if 16384 < c + 1 then 503 else if 24 < d then 502 else if h.k < 1 ∨ 6 < h.k then 500 else if alone h m = true then 0 else 501
/-- One value is looked at: how many there were, a fault; does it go on? -/
noncomputable def stepC (q : Nat × Nat) (d : Nat) (h : Hd) (m : Nat) : (Nat × Nat) × Bool := if fault q.1 d h m = 0 then ((q.1 + 1, q.2), true) else ((q.1 + 1, fault q.1 d h m), false)

noncomputable def objsC (n : Nat) (cs : List AV) (q : Nat × Nat) (b : Bool) : Sto :=
  [.cells 0 cs 0, .cells 0 [.int .i64 ((q.2 : Nat) : Int)] 0, .cells 0 [.int .i64 ((q.1 : Nat) : Int)] 0, .cells 0 [.mp n 0 0] 0, .cells 0 [.int .i64 25] 0,
   .loop (value_Check.lp11010 (n + 1) (n + 2) (.fn (.func 54) [] [.mp (n + 3) 0 0, .mp (n + 4) 0 0]) (if b then .ready else .done) (if b then none else some .ret))]

theorem pt_now {old S S' : Sto} {v : AV} {cs : List AV} (h : Pt (old.length + 1) S v cs) (hs : ∀ i, i < old.length + 1 → S'[i]? = S[i]?) : Pt (old.length + 1) S' v cs := by
  obtain ⟨hl, h⟩ := h
  rcases h with rfl | ⟨id, h1, rfl, h2⟩
  · exact ⟨hl, .inl rfl⟩
  · exact ⟨hl, .inr ⟨id, h1, rfl, by rw [hs id h1]; exact h2⟩⟩

theorem yieldC {old : Sto} {cs0 : List AV} {q : Nat × Nat} {S : Sto} {d : Nat} {h : Hd} {parts : Va} {v : AV} {cs : List AV} (hL : Lay old (objsC old.length cs0 q true) S) (hq : q.1 ≤ 16384) (hp : Pt (old.length + 1) S v cs) (h1 : One h parts cs) (hs : nsz h.names ≤ 1050000) (hss : h.s.size ≤ 1050000) (hd : d ≤ 1050000) :
    ∃ st', CallR ap rnd [.yl (old.length + 5), .int .i64 ((d : Nat) : Int), v] S = some (.ret (.bool (stepC q d h parts.len).2), st') ∧ Now old (objsC old.length cs0 (stepC q d h parts.len).1 (stepC q d h parts.len).2) S st' := by
  obtain ⟨t6, ht6⟩ : ∃ t, t = AV.fn (.func 54) [] [.mp (old.length + 3) 0 0, .mp (old.length + 4) 0 0] := ⟨_, rfl⟩
  have hlp : S[old.length + 5]? = some (.loop (value_Check.lp11010 (old.length + 1) (old.length + 2) t6 .ready none)) := by
    rw [ht6]; exact hL.get (j := 5) rfl
  rw [value_Check.r11010.call (old.length + 1) (old.length + 2) t6 (.int .i64 ((d : Nat) : Int)) v (old.length + 5) S hlp]
  -- the round
  suffices hb : ∃ st', value_Check.r11010 (old.length + 1) (old.length + 2) t6 (.int .i64 ((d : Nat) : Int)) v (old.length + 5) S = some ⟨.ret (.bool (stepC q d h parts.len).2), none, st'⟩ ∧ Now old (objsC old.length cs0 (stepC q d h parts.len).1 (stepC q d h parts.len).2) S st' by
    obtain ⟨st', k1, k2⟩ := hb
    refine ⟨st', ?_, k2⟩
    rw [k1]
    simp only [Option.bind_some]
    rw [gc_same k2.len rfl]
  have hbeg : rBeg S (old.length + 5) = some (S.set (old.length + 5) (.loop (value_Check.lp11010 (old.length + 1) (old.length + 2) t6 .busy none))) := by
    unfold rBeg
    rw [hlp]
    rfl
  have N0 := (Now.refl hL).set 5 (by simp [objsC]) (.loop (value_Check.lp11010 (old.length + 1) (old.length + 2) t6 .busy none))
  obtain ⟨S1, hS1⟩ : ∃ s, s = S.set (old.length + 5) (.loop (value_Check.lp11010 (old.length + 1) (old.length + 2) t6 .busy none)) := ⟨_, rfl⟩
  rw [← hS1] at N0 hbeg
  have gc1 : S1[old.length + 2]? = some (.cells 0 [.int .i64 ((q.1 : Nat) : Int)] 0) := by
    have := N0.lay.get (j := 2) (o := .cells 0 [.int .i64 ((q.1 : Nat) : Int)] 0) rfl
    exact this
  have wc : IntKind.wrap .i64 (((q.1 : Nat) : Int) + 1) = ((q.1 + 1 : Nat) : Int) := w64 _ (by omega) (by omega)
  have hsc : sto 1 S1 (.mp (old.length + 2) 0 0) (.int .i64 ((q.1 + 1 : Nat) : Int)) = some (S1.set (old.length + 2) (.cells 0 [.int .i64 ((q.1 + 1 : Nat) : Int)] 0)) := sto_at gc1 (by simp) rfl rfl
  have N1 := N0.set 2 (by simp [objsC]) (.cells 0 [.int .i64 ((q.1 + 1 : Nat) : Int)] 0)
  obtain ⟨S2, hS2⟩ : ∃ s, s = S1.set (old.length + 2) (.cells 0 [.int .i64 ((q.1 + 1 : Nat) : Int)] 0) := ⟨_, rfl⟩
  rw [← hS2] at N1 hsc
  have gc2 : S2[old.length + 2]? = some (.cells 0 [.int .i64 ((q.1 + 1 : Nat) : Int)] 0) := by
    have := N1.lay.get (j := 2) (o := .cells 0 [.int .i64 ((q.1 + 1 : Nat) : Int)] 0) rfl
    exact this
  have gr2 : S2[old.length + 1]? = some (.cells 0 [.int .i64 ((q.2 : Nat) : Int)] 0) := by
    have := N1.lay.get (j := 1) (o := .cells 0 [.int .i64 ((q.2 : Nat) : Int)] 0) rfl
    exact this
  have gl2 : S2[old.length + 5]? = some (.loop (value_Check.lp11010 (old.length + 1) (old.length + 2) t6 .busy none)) := by
    have := N1.lay.get (j := 5) (o := .loop (value_Check.lp11010 (old.length + 1) (old.length + 2) t6 .busy none)) rfl
    exact this
  have hp2 : Pt (old.length + 1) S2 v cs := by
    refine pt_now hp fun i hi => ?_
    rw [hS2, hS1, List.getElem?_set_ne (by omega), List.getElem?_set_ne (by omega)]
  -- the ends
  have stop : ∀ e : Nat, ∃ st', (sto 1 S2 (.mp (old.length + 1) 0 0) (.int .i64 ((e : Nat) : Int))).bind (fun s => rEnd s (old.length + 5) (some .ret)) = some ⟨.ret (.bool false), none, st'⟩ ∧ Now old (objsC old.length cs0 (q.1 + 1, e) false) S st' := by
    intro e
    have hse : sto 1 S2 (.mp (old.length + 1) 0 0) (.int .i64 ((e : Nat) : Int)) = some (S2.set (old.length + 1) (.cells 0 [.int .i64 ((e : Nat) : Int)] 0)) := sto_at gr2 (by simp) rfl rfl
    have N2 := (N1.set 1 (by simp [objsC]) (.cells 0 [.int .i64 ((e : Nat) : Int)] 0)).set 5 (by simp [objsC]) (.loop (value_Check.lp11010 (old.length + 1) (old.length + 2) t6 .done (some .ret)))
    rw [hse]
    refine ⟨_, ?_, by rw [ht6] at N2; exact N2⟩
    simp only [Option.bind_some]
    unfold rEnd
    rw [List.getElem?_set_ne (by omega), gl2]
    rw [ht6]
    rfl
  have run : rEnd S2 (old.length + 5) none = some ⟨.ret (.bool true), none, S2.set (old.length + 5) (.loop (value_Check.lp11010 (old.length + 1) (old.length + 2) t6 .ready none))⟩ ∧ Now old (objsC old.length cs0 (q.1 + 1, q.2) true) S (S2.set (old.length + 5) (.loop (value_Check.lp11010 (old.length + 1) (old.length + 2) t6 .ready none))) := by
    have N2 := N1.set 5 (by simp [objsC]) (.loop (value_Check.lp11010 (old.length + 1) (old.length + 2) t6 .ready none))
    refine ⟨?_, by rw [ht6] at N2 ⊢; exact N2⟩
    unfold rEnd
    rw [gl2]
    rfl
  have h1' := h1
  obtain ⟨a, p, hcs, hIn, hna, hpp⟩ := h1
  have g0 := hp2.get (R := Res) 0 (.int .i64 h.k) (by rw [hcs]; rfl)
  have hlen2 : old.length + 6 ≤ S2.length := N1.lay.len
  have hform := formed_spec hcs (hp2.weak (by omega)) hna hpp hs hss
  have c1 : ((16384 : Int) < ((q.1 + 1 : Nat) : Int)) ↔ 16384 < q.1 + 1 := by omega
  have c2 : ((24 : Int) < ((d : Nat) : Int)) ↔ 24 < d := by omega
  have body : value_Check.r11010 (old.length + 1) (old.length + 2) t6 (.int .i64 ((d : Nat) : Int)) v (old.length + 5) S = (if fault q.1 d h parts.len = 0 then rEnd S2 (old.length + 5) none else (sto 1 S2 (.mp (old.length + 1) 0 0) (.int .i64 ((fault q.1 d h parts.len : Nat) : Int))).bind (fun s => rEnd s (old.length + 5) (some .ret))) := by
    rw [value_Check.r11010_eq]
    simp only [hbeg, Option.bind_some, m_get (n := 0) gc1 rfl, asI, if_true, wc, hsc, m_get (n := 0) gc2 rfl, c1, c2, hp2.nk, g0]
    unfold fault
    by_cases f1 : 16384 < q.1 + 1
    · simp only [f1, decide_true, cond_true, if_true, show ¬ (503 = 0) by omega, if_false]
      rfl
    · by_cases f2 : 24 < d
      · simp only [f1, f2, decide_true, decide_false, cond_true, cond_false, if_true, if_false, show ¬ (502 = 0) by omega]
        rfl
      · by_cases f3 : h.k < 1
        · simp only [f1, f2, f3, decide_true, decide_false, cond_true, cond_false, if_true, if_false, true_or, show ¬ (500 = 0) by omega, value_Check.p11010001011111_eq]
          rfl
        · by_cases f4 : 6 < h.k
          · simp only [f1, f2, f3, f4, decide_true, decide_false, cond_true, cond_false, if_true, if_false, or_true, show ¬ (500 = 0) by omega, value_Check.p11010001011111_eq]
            rfl
          · simp only [f1, f2, f3, f4, decide_false, cond_false, if_false, or_false, value_Check.p11010001011111_eq, hform, Option.bind_some, Out.on, asB]
            cases hal : alone h parts.len with
            | true => simp only [Bool.not_true, cond_false, if_true]
            | false =>
              simp only [Bool.not_false, cond_true, Bool.false_eq_true, if_false, show ¬ (501 = 0) by omega]
              rfl
  rw [body]
  unfold stepC
  by_cases hf : fault q.1 d h parts.len = 0
  · simp only [hf, if_true]
    exact ⟨_, run.1, run.2⟩
  · simp only [hf, if_false]
    exact stop _

/-- What Check answers. -/
noncomputable def codeC (h : Hd) (parts : Va) : Nat := if (go 25 stepC (.cons h parts .nil) (0, 0) 1).2 = true then 0 else (go 25 stepC (.cons h parts .nil) (0, 0) 1).1.2

theorem stepC_bound (q : Nat × Nat) (d : Nat) (h : Hd) (m : Nat) (k : (stepC q d h m).2 = true) : (stepC q d h m).1.1 ≤ 16384 := by
  unfold stepC at k ⊢
  by_cases hf : fault q.1 d h m = 0
  · rw [if_pos hf]
    unfold fault at hf
    split at hf
    · cases hf
    · simp only; omega
  · rw [if_neg hf] at k
    cases k

theorem asksC (old : Sto) (cs0 : List AV) : Asks 25 stepC (old.length + 6) (old.length + 1) (.mp (old.length + 4) 0 0) (old.length + 5) (fun q b S => Lay old (objsC old.length cs0 q b) S ∧ (b = true → q.1 ≤ 16384)) := by
  refine ⟨fun q b st st' hI k => ⟨hI.1.point (fun i hi => k.at_ i (by simpa [objsC] using hi)) (Nat.le_trans hI.1.len k.len), hI.2⟩, fun q b st hI => ?_, fun q st d h parts v cs hI hn hp h1 hs hss hd1 hd => ?_⟩
  · exact m_get (n := 0) (hI.1.get (j := 4) rfl) rfl
  · obtain ⟨st', k1, k2⟩ := yieldC hI.1 (hI.2 rfl) hp h1 hs hss hd
    exact ⟨st', k1, ⟨k2.lay, fun k => stepC_bound _ _ _ _ k⟩, k2.len, fun i hi => k2.hi i (by simpa [objsC] using hi)⟩

theorem check_spec {h : Hd} {parts : Va} {cs : List AV} (h1 : One h parts cs) (hs : (Va.cons h parts .nil).sz ≤ 1050000) (st : Sto) : CallR ap 11 [.agg cs] st = some (.ret (.int .i64 ((codeC h parts : Nat) : Int)), st) := by
  have hall := h1.all
  have hcs : AV.cells (.agg cs) = cs := rfl
  rw [value_Check.call]
  suffices hb : ∃ st', value_Check.b (.agg cs) st = some ⟨.ret (.int .i64 ((codeC h parts : Nat) : Int)), none, st'⟩ ∧ Keeps st.length st st' by
    obtain ⟨st', k1, k2⟩ := hb
    exact ret_keep k1 rfl rfl k2
  rw [value_Check.b_eq, hcs, if_pos hall]
  have e3 : ((st ++ [Ob.cells 0 cs 0]) ++ [Ob.cells 0 [.int .i64 0] 0]) ++ [Ob.cells 0 [.int .i64 0] 0] = st ++ [.cells 0 cs 0, .cells 0 [.int .i64 0] 0, .cells 0 [.int .i64 0] 0] := by simp
  have e1 : (st ++ [Ob.cells 0 cs 0]).length = st.length + 1 := by simp
  have e2 : ((st ++ [Ob.cells 0 cs 0]) ++ [Ob.cells 0 [.int .i64 0] 0]).length = st.length + 2 := by simp
  rw [e3, e2, e1]
  have L0 := Lay.init st [.cells 0 cs 0, .cells 0 [.int .i64 0] 0, .cells 0 [.int .i64 0] 0]
  have hsto : sto 1 (st ++ [.cells 0 cs 0, .cells 0 [.int .i64 0] 0, .cells 0 [.int .i64 0] 0]) (.mp (st.length + 2) 0 0) (.int .i64 0) = some (st ++ [.cells 0 cs 0, .cells 0 [.int .i64 0] 0, .cells 0 [.int .i64 0] 0]) := by
    rw [sto_at (L0.get (j := 2) rfl) (by simp) rfl rfl]
    congr 1
    rw [List.set_append, if_neg (by omega)]
    simp
  have hlen : (st ++ [Ob.cells 0 cs 0, .cells 0 [.int .i64 0] 0, .cells 0 [.int .i64 0] 0]).length = st.length + 3 := by simp
  simp only [hsto, Option.bind_some, all_call, hlen, Out.on, value_Check.p11010_eq]
  have e5 : (st ++ [Ob.cells 0 cs 0, .cells 0 [.int .i64 0] 0, .cells 0 [.int .i64 0] 0] ++ [Ob.cells 0 [.mp st.length 0 0] 0, .cells 0 [.int .i64 25] 0]).length = st.length + 5 := by simp
  rw [e5, range_all]
  have eS : st ++ [Ob.cells 0 cs 0, .cells 0 [.int .i64 0] 0, .cells 0 [.int .i64 0] 0] ++ [Ob.cells 0 [.mp st.length 0 0] 0, .cells 0 [.int .i64 25] 0] ++ [Ob.loop (value_Check.lp11010 (st.length + 1) (st.length + 2) (.fn (.func 54) [] [.mp (st.length + 3) 0 0, .mp (st.length + 3 + 1) 0 0]) .ready none)] = st ++ objsC st.length cs (0, 0) true := by
    simp [objsC]
  rw [eS]
  have L1 := Lay.init st (objsC st.length cs (0, 0) true)
  have hA := asksC st cs
  have hcs6 : cs.length = 6 := by obtain ⟨a, p, rfl, _⟩ := h1; rfl
  have hpt : ∀ (q : Nat × Nat) (b : Bool) (S : Sto), Lay st (objsC st.length cs q b) S → Pt (st.length + 1) S (.mp st.length 0 0) cs := fun q b S hL => ⟨hcs6, .inr ⟨st.length, by omega, rfl, hL.get (j := 0) rfl⟩⟩
  obtain ⟨st1, k1, k2, k3⟩ := all_spec 25 stepC hA (by omega) (by omega) (q := (0, 0)) (c0 := .mp (st.length + 3) 0 0) (v := .mp st.length 0 0) (cs := cs) ⟨L1, fun _ => by simp⟩ (by simp [objsC]) (fun q b S hI => m_get (n := 0) (hI.1.get (j := 3) rfl) rfl) (hpt _ _ _ L1) (fun q b S hI => hpt _ _ _ hI.1) h1 hs
  obtain ⟨st2, m1, m2⟩ := all1_call k1 k2 (by simp [objsC])
  rw [m1]
  simp only [Option.bind_some, Out.on]
  obtain ⟨q', hq'⟩ : ∃ q', q' = go 25 stepC (.cons h parts .nil) (0, 0) 1 := ⟨_, rfl⟩
  have hcode : codeC h parts = if q'.2 = true then 0 else q'.1.2 := by rw [hq']; rfl
  rw [← hq'] at m2
  have hg5 := m2.get (j := 5) rfl
  have hl2 : st.length + 6 ≤ st2.length := by simpa [objsC] using m2.len
  have hkeep : ∀ S : Sto, st2.length ≤ S.length → (∀ i, i < st.length → S[i]? = st2[i]?) → Keeps st.length st S := fun S hl hh => ⟨by omega, fun i hi => (hh i hi).trans (m2.lo i hi)⟩
  cases hb : q'.2 with
  | true =>
    rw [hb] at hg5
    have hend : lpEnd st2 (st.length + 5) = some (none, st2.set (st.length + 5) (.loop (value_Check.lp11010 (st.length + 1) (st.length + 2) (.fn (.func 54) [] [.mp (st.length + 3) 0 0, .mp (st.length + 3 + 1) 0 0]) .exhausted none))) := by
      unfold lpEnd
      rw [hg5]
      rfl
    simp only [hend, Option.bind_some, jOn]
    have L2 := m2.set 5 (by simp [objsC]) (.loop (value_Check.lp11010 (st.length + 1) (st.length + 2) (.fn (.func 54) [] [.mp (st.length + 3) 0 0, .mp (st.length + 3 + 1) 0 0]) .exhausted none))
    obtain ⟨S3, hS3⟩ : ∃ s, s = st2.set (st.length + 5) (.loop (value_Check.lp11010 (st.length + 1) (st.length + 2) (.fn (.func 54) [] [.mp (st.length + 3) 0 0, .mp (st.length + 3 + 1) 0 0]) .exhausted none)) := ⟨_, rfl⟩
    rw [← hS3] at L2 ⊢
    have hs1 := sto_at (L2.get (j := 1) rfl) (k := 0) (x := .int .i64 0) (by simp) rfl rfl
    have L3 := L2.set 1 (by simp [objsC]) (.cells 0 [.int .i64 0] 0)
    have e6 : ([AV.int .i64 ((q'.1.2 : Nat) : Int)]).set 0 (.int .i64 0) = [.int .i64 0] := rfl
    rw [e6] at hs1
    rw [hs1]
    obtain ⟨S4, hS4⟩ : ∃ s, s = S3.set (st.length + 1) (.cells 0 [.int .i64 0] 0) := ⟨_, rfl⟩
    rw [← hS4] at L3 ⊢
    have hm : endMarks [⟨.yl (st.length + 5), []⟩] S4 = some (S4.set (st.length + 5) .dead) := by
      have := L3.get (j := 5) (o := .loop (value_Check.lp11010 (st.length + 1) (st.length + 2) (.fn (.func 54) [] [.mp (st.length + 3) 0 0, .mp (st.length + 3 + 1) 0 0]) .exhausted none)) rfl
      simp only [endMarks, this]
    simp only [Option.bind_some, hm]
    have L4 := L3.set 5 (by simp [objsC]) .dead
    have hld : ld false 1 (S4.set (st.length + 5) .dead) (.mp (st.length + 1) 0 0) = some (.int .i64 0) := m_get (n := 0) (L4.get (j := 1) (o := .cells 0 [.int .i64 0] 0) rfl) rfl
    rw [hld]
    refine ⟨S4.set (st.length + 5) .dead, by rw [hcode, hb]; rfl, hkeep _ (by simp [hS4, hS3]) fun i hi => ?_⟩
    rw [List.getElem?_set_ne (by omega), hS4, List.getElem?_set_ne (by omega), hS3, List.getElem?_set_ne (by omega)]
  | false =>
    rw [hb] at hg5
    have hend : lpEnd st2 (st.length + 5) = some (some .ret, st2.set (st.length + 5) (.loop (value_Check.lp11010 (st.length + 1) (st.length + 2) (.fn (.func 54) [] [.mp (st.length + 3) 0 0, .mp (st.length + 3 + 1) 0 0]) .exhausted (some .ret)))) := by
      unfold lpEnd
      rw [hg5]
      rfl
    simp only [hend, Option.bind_some, jOn]
    have L2 := m2.set 5 (by simp [objsC]) (.loop (value_Check.lp11010 (st.length + 1) (st.length + 2) (.fn (.func 54) [] [.mp (st.length + 3) 0 0, .mp (st.length + 3 + 1) 0 0]) .exhausted (some .ret)))
    obtain ⟨S3, hS3⟩ : ∃ s, s = st2.set (st.length + 5) (.loop (value_Check.lp11010 (st.length + 1) (st.length + 2) (.fn (.func 54) [] [.mp (st.length + 3) 0 0, .mp (st.length + 3 + 1) 0 0]) .exhausted (some .ret))) := ⟨_, rfl⟩
    rw [← hS3] at L2 ⊢
    have hm : endMarks [⟨.yl (st.length + 5), []⟩] S3 = some (S3.set (st.length + 5) .dead) := by
      have := L2.get (j := 5) (o := .loop (value_Check.lp11010 (st.length + 1) (st.length + 2) (.fn (.func 54) [] [.mp (st.length + 3) 0 0, .mp (st.length + 3 + 1) 0 0]) .exhausted (some .ret))) rfl
      simp only [endMarks, this]
    simp only [Option.bind_some, hm]
    have L4 := L2.set 5 (by simp [objsC]) .dead
    have hld : ld false 1 (S3.set (st.length + 5) .dead) (.mp (st.length + 1) 0 0) = some (.int .i64 ((q'.1.2 : Nat) : Int)) := m_get (n := 0) (L4.get (j := 1) (o := .cells 0 [.int .i64 ((q'.1.2 : Nat) : Int)] 0) rfl) rfl
    rw [hld]
    refine ⟨S3.set (st.length + 5) .dead, by rw [hcode, hb]; rfl, hkeep _ (by simp [hS3]) fun i hi => ?_⟩
    rw [List.getElem?_set_ne (by omega), hS3, List.getElem?_set_ne (by omega)]

theorem mxI_nat (a b : Nat) : mxI (a : Int) (b : Int) = ((max a b : Nat) : Int) := by
  unfold mxI
  omega

/-! ### What a round of one number does -/
def stepD (q : Nat) (d : Nat) (h : Hd) (m : Nat) : Nat × Bool := (max q d, true)
def stepN (q : Nat) (d : Nat) (h : Hd) (m : Nat) : Nat × Bool := (q + 1, true)

noncomputable def objsD (n : Nat) (cs : List AV) (q : Nat) : Sto :=
  [.cells 0 cs 0, .cells 0 [.int .i64 ((q : Nat) : Int)] 0, .cells 0 [.mp n 0 0] 0, .cells 0 [.int .i64 24] 0,
   .loop (value_Depth.lp111010 0 (n + 1) (.fn (.func 54) [] [.mp (n + 2) 0 0, .mp (n + 3) 0 0]) .ready none)]
def stepW (q : Int) (d : Nat) (h : Hd) (m : Nat) : Int × Bool := (IntKind.wrap .i64 (q + 1), true)
noncomputable def objsN (n : Nat) (cs : List AV) (q : Int) : Sto :=
  [.cells 0 cs 0, .cells 0 [.int .i64 q] 0, .cells 0 [.mp n 0 0] 0, .cells 0 [.int .i64 24] 0,
   .loop (value_Count.lp111010 0 (n + 1) (.fn (.func 54) [] [.mp (n + 2) 0 0, .mp (n + 3) 0 0]) .ready none)]

theorem yieldD {old : Sto} {cs0 : List AV} {q : Nat} {S : Sto} {d : Nat} {v : AV} (hL : Lay old (objsD old.length cs0 q) S) :
    ∃ st', CallR ap rnd [.yl (old.length + 4), .int .i64 ((d : Nat) : Int), v] S = some (.ret (.bool true), st') ∧ Now old (objsD old.length cs0 (max q d)) S st' := by
  obtain ⟨t6, ht6⟩ : ∃ t, t = AV.fn (.func 54) [] [.mp (old.length + 2) 0 0, .mp (old.length + 3) 0 0] := ⟨_, rfl⟩
  have hlp : S[old.length + 4]? = some (.loop (value_Depth.lp111010 0 (old.length + 1) t6 .ready none)) := by
    rw [ht6]; exact hL.get (j := 4) rfl
  rw [value_Depth.r111010.call 0 (old.length + 1) t6 (.int .i64 ((d : Nat) : Int)) v (old.length + 4) S hlp]
  suffices hb : ∃ st', value_Depth.r111010 0 (old.length + 1) t6 (.int .i64 ((d : Nat) : Int)) v (old.length + 4) S = some ⟨.ret (.bool true), none, st'⟩ ∧ Now old (objsD old.length cs0 (max q d)) S st' by
    obtain ⟨st', k1, k2⟩ := hb
    refine ⟨st', ?_, k2⟩
    rw [k1]
    simp only [Option.bind_some]
    rw [gc_same k2.len rfl]
  have hbeg : rBeg S (old.length + 4) = some (S.set (old.length + 4) (.loop (value_Depth.lp111010 0 (old.length + 1) t6 .busy none))) := by
    unfold rBeg
    rw [hlp]
    rfl
  have N0 := (Now.refl hL).set 4 (by simp [objsD]) (.loop (value_Depth.lp111010 0 (old.length + 1) t6 .busy none))
  obtain ⟨S1, hS1⟩ : ∃ s, s = S.set (old.length + 4) (.loop (value_Depth.lp111010 0 (old.length + 1) t6 .busy none)) := ⟨_, rfl⟩
  rw [← hS1] at N0 hbeg
  have gc1 : S1[old.length + 1]? = some (.cells 0 [.int .i64 ((q : Nat) : Int)] 0) := N0.lay.get (j := 1) rfl
  have hsc : sto 1 S1 (.mp (old.length + 1) 0 0) (.int .i64 ((max q d : Nat) : Int)) = some (S1.set (old.length + 1) (.cells 0 [.int .i64 ((max q d : Nat) : Int)] 0)) := sto_at gc1 (by simp) rfl rfl
  have N1 := N0.set 1 (by simp [objsD]) (.cells 0 [.int .i64 ((max q d : Nat) : Int)] 0)
  obtain ⟨S2, hS2⟩ : ∃ s, s = S1.set (old.length + 1) (.cells 0 [.int .i64 ((max q d : Nat) : Int)] 0) := ⟨_, rfl⟩
  rw [← hS2] at N1 hsc
  have gl2 : S2[old.length + 4]? = some (.loop (value_Depth.lp111010 0 (old.length + 1) t6 .busy none)) := N1.lay.get (j := 4) rfl
  have N2 := N1.set 4 (by simp [objsD]) (.loop (value_Depth.lp111010 0 (old.length + 1) t6 .ready none))
  refine ⟨S2.set (old.length + 4) (.loop (value_Depth.lp111010 0 (old.length + 1) t6 .ready none)), ?_, by rw [ht6] at N2 ⊢; exact N2⟩
  rw [value_Depth.r111010_eq]
  simp only [hbeg, Option.bind_some, m_get (n := 0) gc1 rfl, asI, if_true, mxI_nat, hsc]
  unfold rEnd
  rw [gl2]
  rfl
theorem yieldN {old : Sto} {cs0 : List AV} {q : Int} {S : Sto} {d : Nat} {v : AV} (hL : Lay old (objsN old.length cs0 q) S) :
    ∃ st', CallR ap rnd [.yl (old.length + 4), .int .i64 ((d : Nat) : Int), v] S = some (.ret (.bool true), st') ∧ Now old (objsN old.length cs0 (IntKind.wrap .i64 (q + 1))) S st' := by
  obtain ⟨t6, ht6⟩ : ∃ t, t = AV.fn (.func 54) [] [.mp (old.length + 2) 0 0, .mp (old.length + 3) 0 0] := ⟨_, rfl⟩
  have hlp : S[old.length + 4]? = some (.loop (value_Count.lp111010 0 (old.length + 1) t6 .ready none)) := by
    rw [ht6]; exact hL.get (j := 4) rfl
  rw [value_Count.r111010.call 0 (old.length + 1) t6 (.int .i64 ((d : Nat) : Int)) v (old.length + 4) S hlp]
  suffices hb : ∃ st', value_Count.r111010 0 (old.length + 1) t6 (.int .i64 ((d : Nat) : Int)) v (old.length + 4) S = some ⟨.ret (.bool true), none, st'⟩ ∧ Now old (objsN old.length cs0 (IntKind.wrap .i64 (q + 1))) S st' by
    obtain ⟨st', k1, k2⟩ := hb
    refine ⟨st', ?_, k2⟩
    rw [k1]
    simp only [Option.bind_some]
    rw [gc_same k2.len rfl]
  have hbeg : rBeg S (old.length + 4) = some (S.set (old.length + 4) (.loop (value_Count.lp111010 0 (old.length + 1) t6 .busy none))) := by
    unfold rBeg
    rw [hlp]
    rfl
  have N0 := (Now.refl hL).set 4 (by simp [objsN]) (.loop (value_Count.lp111010 0 (old.length + 1) t6 .busy none))
  obtain ⟨S1, hS1⟩ : ∃ s, s = S.set (old.length + 4) (.loop (value_Count.lp111010 0 (old.length + 1) t6 .busy none)) := ⟨_, rfl⟩
  rw [← hS1] at N0 hbeg
  have gc1 : S1[old.length + 1]? = some (.cells 0 [.int .i64 q] 0) := N0.lay.get (j := 1) rfl
  have hsc : sto 1 S1 (.mp (old.length + 1) 0 0) (.int .i64 (IntKind.wrap .i64 (q + 1))) = some (S1.set (old.length + 1) (.cells 0 [.int .i64 (IntKind.wrap .i64 (q + 1))] 0)) := sto_at gc1 (by simp) rfl rfl
  have N1 := N0.set 1 (by simp [objsN]) (.cells 0 [.int .i64 (IntKind.wrap .i64 (q + 1))] 0)
  obtain ⟨S2, hS2⟩ : ∃ s, s = S1.set (old.length + 1) (.cells 0 [.int .i64 (IntKind.wrap .i64 (q + 1))] 0) := ⟨_, rfl⟩
  rw [← hS2] at N1 hsc
  have gl2 : S2[old.length + 4]? = some (.loop (value_Count.lp111010 0 (old.length + 1) t6 .busy none)) := N1.lay.get (j := 4) rfl
  have N2 := N1.set 4 (by simp [objsN]) (.loop (value_Count.lp111010 0 (old.length + 1) t6 .ready none))
  refine ⟨S2.set (old.length + 4) (.loop (value_Count.lp111010 0 (old.length + 1) t6 .ready none)), ?_, by rw [ht6] at N2 ⊢; exact N2⟩
  rw [value_Count.r111010_eq]
  simp only [hbeg, Option.bind_some, m_get (n := 0) gc1 rfl, asI, if_true, hsc]
  unfold rEnd
  rw [gl2]
  rfl

theorem asksD (old : Sto) (cs0 : List AV) : Asks 24 stepD (old.length + 5) (old.length + 1) (.mp (old.length + 3) 0 0) (old.length + 4) (fun q b S => Lay old (objsD old.length cs0 q) S) := by
  refine ⟨fun q b st st' hI k => hI.point (fun i hi => k.at_ i (by simpa [objsD] using hi)) (Nat.le_trans hI.len k.len), fun q b st hI => ?_, fun q st d h parts v cs hI hn hp h1 hs hss hd1 hd => ?_⟩
  · exact m_get (n := 0) (hI.get (j := 3) rfl) rfl
  · obtain ⟨st', k1, k2⟩ := yieldD (d := d) (v := v) hI
    exact ⟨st', k1, k2.lay, k2.len, fun i hi => k2.hi i (by simpa [objsD] using hi)⟩

theorem asksN (old : Sto) (cs0 : List AV) : Asks 24 stepW (old.length + 5) (old.length + 1) (.mp (old.length + 3) 0 0) (old.length + 4) (fun q b S => Lay old (objsN old.length cs0 q) S) := by
  refine ⟨fun q b st st' hI k => hI.point (fun i hi => k.at_ i (by simpa [objsN] using hi)) (Nat.le_trans hI.len k.len), fun q b st hI => ?_, fun q st d h parts v cs hI hn hp h1 hs hss hd1 hd => ?_⟩
  · exact m_get (n := 0) (hI.get (j := 3) rfl) rfl
  · obtain ⟨st', k1, k2⟩ := yieldN (d := d) (v := v) hI
    exact ⟨st', k1, k2.lay, k2.len, fun i hi => k2.hi i (by simpa [objsN] using hi)⟩

theorem stepN_go (most : Nat) : ∀ (ts : Va) (q d : Nat), (go most stepN ts q d).2 = true ∧ q ≤ (go most stepN ts q d).1 ∧ (go most stepN ts q d).1 ≤ q + ts.sz := by
  intro ts
  induction ts with
  | nil => intro q d; simp [go, Va.sz]
  | cons h parts rest ihp ihr =>
    intro q d
    simp only [go, stepN, if_true, Va.sz]
    by_cases hd : d < most
    · simp only [hd, if_true]
      obtain ⟨a1, a2, a3⟩ := ihp (q + 1) (d + 1)
      obtain ⟨b1, b2, b3⟩ := ihr (go most stepN parts (q + 1) (d + 1)).1 d
      rw [if_pos a1]
      exact ⟨b1, by omega, by omega⟩
    · simp only [hd, if_false, if_true]
      obtain ⟨b1, b2, b3⟩ := ihr (q + 1) d
      exact ⟨b1, by omega, by omega⟩
theorem stepW_go (most : Nat) : ∀ (ts : Va) (q d : Nat), q + ts.sz ≤ 1000000000 → go most stepW ts ((q : Nat) : Int) d = ((((go most stepN ts q d).1 : Nat) : Int), true) := by
  intro ts
  induction ts with
  | nil => intro q d _; simp [go]
  | cons h parts rest ihp ihr =>
    intro q d hq
    simp only [Va.sz] at hq
    have w : IntKind.wrap .i64 (((q : Nat) : Int) + 1) = ((q + 1 : Nat) : Int) := w64 _ (by omega) (by omega)
    simp only [go, stepN, stepW, if_true, w]
    by_cases hd : d < most
    · simp only [hd, if_true]
      obtain ⟨a1, a2, a3⟩ := stepN_go most parts (q + 1) (d + 1)
      rw [ihp (q + 1) (d + 1) (by omega), if_pos a1]
      simp only [if_true]
      exact ihr _ d (by omega)
    · simp only [hd, if_false, if_true]
      exact ihr (q + 1) d (by omega)
theorem stepD_go (most : Nat) : ∀ (ts : Va) (q d : Nat), (go most stepD ts q d).2 = true := by
  intro ts
  induction ts with
  | nil => intro q d; simp [go]
  | cons h parts rest ihp ihr =>
    intro q d
    simp only [go, stepD, if_true]
    by_cases hd : d < most
    · simp only [hd, if_true]
      rw [if_pos (ihp _ _)]
      exact ihr _ d
    · simp only [hd, if_false, if_true]
      exact ihr _ d

noncomputable def depthC (h : Hd) (parts : Va) : Nat := if codeC h parts = 0 then (go 24 stepD (.cons h parts .nil) 0 1).1 else 0
noncomputable def countC (h : Hd) (parts : Va) : Nat := if codeC h parts = 0 then (go 24 stepN (.cons h parts .nil) 0 1).1 else 0

theorem depth_spec {h : Hd} {parts : Va} {cs : List AV} (h1 : One h parts cs) (hs : (Va.cons h parts .nil).sz ≤ 1050000) (st : Sto) : CallR ap 12 [.agg cs] st = some (.ret (.int .i64 ((depthC h parts : Nat) : Int)), st) := by
  have hall := h1.all
  have hcs : AV.cells (.agg cs) = cs := rfl
  have hcs6 : cs.length = 6 := by obtain ⟨a, p, rfl, _⟩ := h1; rfl
  rw [value_Depth.call]
  suffices hb : ∃ st', value_Depth.b (.agg cs) st = some ⟨.ret (.int .i64 ((depthC h parts : Nat) : Int)), none, st'⟩ ∧ Keeps st.length st st' by
    obtain ⟨st', k1, k2⟩ := hb
    exact ret_keep k1 rfl rfl k2
  rw [value_Depth.b_eq, hcs, if_pos hall]
  have hld : ld true 6 (st ++ [Ob.cells 0 cs 0]) (.mp st.length 0 0) = some (.agg cs) := m_all (g := 0) (fz := 0) (by simp) hcs6
  have c0 : (((codeC h parts : Nat) : Int) = 0) ↔ codeC h parts = 0 := by omega
  simp only [hld, Option.bind_some, check_spec h1 hs, Out.on, asI, if_true, c0]
  by_cases hc : codeC h parts = 0
  · have e1 : (st ++ [Ob.cells 0 cs 0]).length = st.length + 1 := by simp
    have e2 : (st ++ [Ob.cells 0 cs 0]) ++ [Ob.cells 0 [.int .i64 0] 0] = st ++ [.cells 0 cs 0, .cells 0 [.int .i64 0] 0] := by simp
    have L0 := Lay.init st [.cells 0 cs 0, .cells 0 [.int .i64 0] 0]
    have hsto : sto 1 (st ++ [.cells 0 cs 0, .cells 0 [.int .i64 0] 0]) (.mp (st.length + 1) 0 0) (.int .i64 0) = some (st ++ [.cells 0 cs 0, .cells 0 [.int .i64 0] 0]) := by
      rw [sto_at (L0.get (j := 1) rfl) (by simp) rfl rfl]
      congr 1
      rw [List.set_append, if_neg (by omega)]
      simp
    have hlen : (st ++ [Ob.cells 0 cs 0, .cells 0 [.int .i64 0] 0]).length = st.length + 2 := by simp
    simp only [hc, decide_true, Bool.not_true, cond_false, e1, e2, hsto, Option.bind_some, all_call, hlen, value_Depth.p111010_eq]
    have e5 : (st ++ [Ob.cells 0 cs 0, .cells 0 [.int .i64 0] 0] ++ [Ob.cells 0 [.mp st.length 0 0] 0, .cells 0 [.int .i64 24] 0]).length = st.length + 4 := by simp
    rw [e5, range_all]
    have eS : st ++ [Ob.cells 0 cs 0, .cells 0 [.int .i64 0] 0] ++ [Ob.cells 0 [.mp st.length 0 0] 0, .cells 0 [.int .i64 24] 0] ++ [Ob.loop (value_Depth.lp111010 0 (st.length + 1) (.fn (.func 54) [] [.mp (st.length + 2) 0 0, .mp (st.length + 2 + 1) 0 0]) .ready none)] = st ++ objsD st.length cs 0 := by
      simp [objsD]
    rw [eS]
    have L1 := Lay.init st (objsD st.length cs 0)
    have hA := asksD st cs
    have hpt : ∀ (q : Nat) (b : Bool) (S : Sto), Lay st (objsD st.length cs q) S → Pt (st.length + 1) S (.mp st.length 0 0) cs := fun q b S hL => ⟨hcs6, .inr ⟨st.length, by omega, rfl, hL.get (j := 0) rfl⟩⟩
    obtain ⟨st1, k1, k2⟩ := all_spec 24 stepD hA (by omega) (by omega) (q := 0) (c0 := .mp (st.length + 2) 0 0) (v := .mp st.length 0 0) (cs := cs) L1 (by simp [objsD]) (fun q b S hI => m_get (n := 0) (hI.get (j := 2) rfl) rfl) (hpt _ true _ L1) (fun q b S hI => hpt _ b _ hI) h1 hs
    obtain ⟨st2, m1, m2⟩ := all1_call k1 k2 (by simp [objsD])
    rw [m1]
    simp only [Option.bind_some, Out.on]
    have hl2 : st.length + 5 ≤ st2.length := by simpa [objsD] using m2.len
    have hg4 := m2.get (j := 4) rfl
    have hend : lpEnd st2 (st.length + 4) = some (none, st2.set (st.length + 4) (.loop (value_Depth.lp111010 0 (st.length + 1) (.fn (.func 54) [] [.mp (st.length + 2) 0 0, .mp (st.length + 3) 0 0]) .exhausted none))) := by
      unfold lpEnd
      rw [hg4]
      rfl
    have L2 := m2.set 4 (by simp [objsD]) (.loop (value_Depth.lp111010 0 (st.length + 1) (.fn (.func 54) [] [.mp (st.length + 2) 0 0, .mp (st.length + 3) 0 0]) .exhausted none))
    obtain ⟨S3, hS3⟩ : ∃ s, s = st2.set (st.length + 4) (.loop (value_Depth.lp111010 0 (st.length + 1) (.fn (.func 54) [] [.mp (st.length + 2) 0 0, .mp (st.length + 3) 0 0]) .exhausted none)) := ⟨_, rfl⟩
    rw [← hS3] at L2 hend
    have hr : ld false 1 S3 (.mp (st.length + 1) 0 0) = some (.int .i64 (((go 24 stepD (.cons h parts .nil) 0 1).1 : Nat) : Int)) := m_get (n := 0) (L2.get (j := 1) (o := .cells 0 [.int .i64 (((go 24 stepD (.cons h parts .nil) 0 1).1 : Nat) : Int)] 0) rfl) rfl
    have hm : endMarks [⟨.yl (st.length + 4), []⟩] S3 = some (S3.set (st.length + 4) .dead) := by
      have := L2.get (j := 4) (o := .loop (value_Depth.lp111010 0 (st.length + 1) (.fn (.func 54) [] [.mp (st.length + 2) 0 0, .mp (st.length + 3) 0 0]) .exhausted none)) rfl
      simp only [endMarks, this]
    simp only [hend, Option.bind_some, jOn, hr, hm]
    refine ⟨S3.set (st.length + 4) .dead, by unfold depthC; rw [if_pos hc], ?_, fun i hi => ?_⟩
    · rw [List.length_set, hS3, List.length_set]; omega
    · rw [List.getElem?_set_ne (by omega), hS3, List.getElem?_set_ne (by omega)]
      exact m2.lo i hi
  · simp only [hc, decide_false, Bool.not_false, cond_true]
    exact ⟨_, by unfold depthC; rw [if_neg hc]; rfl, Keeps.app (Nat.le_refl _)⟩

theorem count_spec {h : Hd} {parts : Va} {cs : List AV} (h1 : One h parts cs) (hs : (Va.cons h parts .nil).sz ≤ 1050000) (st : Sto) : CallR ap 13 [.agg cs] st = some (.ret (.int .i64 ((countC h parts : Nat) : Int)), st) := by
  have hall := h1.all
  have hcs : AV.cells (.agg cs) = cs := rfl
  have hcs6 : cs.length = 6 := by obtain ⟨a, p, rfl, _⟩ := h1; rfl
  rw [value_Count.call]
  suffices hb : ∃ st', value_Count.b (.agg cs) st = some ⟨.ret (.int .i64 ((countC h parts : Nat) : Int)), none, st'⟩ ∧ Keeps st.length st st' by
    obtain ⟨st', k1, k2⟩ := hb
    exact ret_keep k1 rfl rfl k2
  rw [value_Count.b_eq, hcs, if_pos hall]
  have hld : ld true 6 (st ++ [Ob.cells 0 cs 0]) (.mp st.length 0 0) = some (.agg cs) := m_all (g := 0) (fz := 0) (by simp) hcs6
  have c0 : (((codeC h parts : Nat) : Int) = 0) ↔ codeC h parts = 0 := by omega
  simp only [hld, Option.bind_some, check_spec h1 hs, Out.on, asI, if_true, c0]
  by_cases hc : codeC h parts = 0
  · have e1 : (st ++ [Ob.cells 0 cs 0]).length = st.length + 1 := by simp
    have e2 : (st ++ [Ob.cells 0 cs 0]) ++ [Ob.cells 0 [.int .i64 0] 0] = st ++ [.cells 0 cs 0, .cells 0 [.int .i64 0] 0] := by simp
    have L0 := Lay.init st [.cells 0 cs 0, .cells 0 [.int .i64 0] 0]
    have hsto : sto 1 (st ++ [.cells 0 cs 0, .cells 0 [.int .i64 0] 0]) (.mp (st.length + 1) 0 0) (.int .i64 0) = some (st ++ [.cells 0 cs 0, .cells 0 [.int .i64 0] 0]) := by
      rw [sto_at (L0.get (j := 1) rfl) (by simp) rfl rfl]
      congr 1
      rw [List.set_append, if_neg (by omega)]
      simp
    have hlen : (st ++ [Ob.cells 0 cs 0, .cells 0 [.int .i64 0] 0]).length = st.length + 2 := by simp
    simp only [hc, decide_true, Bool.not_true, cond_false, e1, e2, hsto, Option.bind_some, all_call, hlen, value_Count.p111010_eq]
    have e5 : (st ++ [Ob.cells 0 cs 0, .cells 0 [.int .i64 0] 0] ++ [Ob.cells 0 [.mp st.length 0 0] 0, .cells 0 [.int .i64 24] 0]).length = st.length + 4 := by simp
    rw [e5, range_all]
    have eS : st ++ [Ob.cells 0 cs 0, .cells 0 [.int .i64 0] 0] ++ [Ob.cells 0 [.mp st.length 0 0] 0, .cells 0 [.int .i64 24] 0] ++ [Ob.loop (value_Count.lp111010 0 (st.length + 1) (.fn (.func 54) [] [.mp (st.length + 2) 0 0, .mp (st.length + 2 + 1) 0 0]) .ready none)] = st ++ objsN st.length cs 0 := by
      simp [objsN]
    rw [eS]
    have L1 := Lay.init st (objsN st.length cs 0)
    have hA := asksN st cs
    have hpt : ∀ (q : Int) (b : Bool) (S : Sto), Lay st (objsN st.length cs q) S → Pt (st.length + 1) S (.mp st.length 0 0) cs := fun q b S hL => ⟨hcs6, .inr ⟨st.length, by omega, rfl, hL.get (j := 0) rfl⟩⟩
    obtain ⟨st1, k1, k2⟩ := all_spec 24 stepW hA (by omega) (by omega) (q := 0) (c0 := .mp (st.length + 2) 0 0) (v := .mp st.length 0 0) (cs := cs) L1 (by simp [objsN]) (fun q b S hI => m_get (n := 0) (hI.get (j := 2) rfl) rfl) (hpt _ true _ L1) (fun q b S hI => hpt _ b _ hI) h1 hs
    have hW := stepW_go 24 (.cons h parts .nil) 0 1 (by omega)
    rw [show ((0 : Nat) : Int) = 0 from rfl] at hW
    rw [hW] at k2
    obtain ⟨st2, m1, m2⟩ := all1_call k1 k2 (by simp [objsN])
    rw [m1]
    simp only [Option.bind_some, Out.on]
    have hl2 : st.length + 5 ≤ st2.length := by simpa [objsN] using m2.len
    have hg4 := m2.get (j := 4) rfl
    have hend : lpEnd st2 (st.length + 4) = some (none, st2.set (st.length + 4) (.loop (value_Count.lp111010 0 (st.length + 1) (.fn (.func 54) [] [.mp (st.length + 2) 0 0, .mp (st.length + 3) 0 0]) .exhausted none))) := by
      unfold lpEnd
      rw [hg4]
      rfl
    have L2 := m2.set 4 (by simp [objsN]) (.loop (value_Count.lp111010 0 (st.length + 1) (.fn (.func 54) [] [.mp (st.length + 2) 0 0, .mp (st.length + 3) 0 0]) .exhausted none))
    obtain ⟨S3, hS3⟩ : ∃ s, s = st2.set (st.length + 4) (.loop (value_Count.lp111010 0 (st.length + 1) (.fn (.func 54) [] [.mp (st.length + 2) 0 0, .mp (st.length + 3) 0 0]) .exhausted none)) := ⟨_, rfl⟩
    rw [← hS3] at L2 hend
    have hr : ld false 1 S3 (.mp (st.length + 1) 0 0) = some (.int .i64 (((go 24 stepN (.cons h parts .nil) 0 1).1 : Nat) : Int)) := m_get (n := 0) (L2.get (j := 1) (o := .cells 0 [.int .i64 (((go 24 stepN (.cons h parts .nil) 0 1).1 : Nat) : Int)] 0) rfl) rfl
    have hm : endMarks [⟨.yl (st.length + 4), []⟩] S3 = some (S3.set (st.length + 4) .dead) := by
      have := L2.get (j := 4) (o := .loop (value_Count.lp111010 0 (st.length + 1) (.fn (.func 54) [] [.mp (st.length + 2) 0 0, .mp (st.length + 3) 0 0]) .exhausted none)) rfl
      simp only [endMarks, this]
    simp only [hend, Option.bind_some, jOn, hr, hm]
    refine ⟨S3.set (st.length + 4) .dead, by unfold countC; rw [if_pos hc], ?_, fun i hi => ?_⟩
    · rw [List.length_set, hS3, List.length_set]; omega
    · rw [List.getElem?_set_ne (by omega), hS3, List.getElem?_set_ne (by omega)]
      exact m2.lo i hi
  · simp only [hc, decide_false, Bool.not_false, cond_true]
    exact ⟨_, by unfold countC; rw [if_neg hc]; rfl, Keeps.app (Nat.le_refl _)⟩

open Classical in
theorem names_ref {n : Nat} {S : Sto} {cs : List AV} {h : Hd} {a p : AV} (hS : S[n]? = some (.cells 0 cs 0)) (hcs : cs = hcells h a p) (ha : NamV h.names a) (hs : nsz h.names ≤ 1050000) :
    ∀ (suf pre : List ByteArray), h.names = pre ++ suf → stencilref5_alone.p11110100 n ((pre.length : Nat) : Int) S = some ⟨.ret (.bool (suf.all okT && decide h.names.Nodup)), none, S⟩ := by
  have h4 : ld false 1 S (.mp n 0 4) = some a := m_get hS (by rw [hcs]; rfl)
  have hlen := nsz_len h.names
  intro suf
  induction suf with
  | nil =>
    intro pre hpre
    rw [List.append_nil] at hpre
    rw [stencilref5_alone.p11110100_eq]
    simp only [h4, Option.bind_some, ha.len, hpre, Int.lt_irrefl, decide_false, cond_false]
    simp only [← hpre, twice_spec ha (by omega), Option.bind_some, Out.on, asB, Bool.not_not, List.all_nil, Bool.true_and]
  | cons x r ih =>
    intro pre hpre
    have hx : x ∈ h.names := by rw [hpre]; simp
    have hxs := nsz_mem hx
    have hlt : (((pre.length : Nat) : Int) < ((h.names.length : Nat) : Int)) := by rw [hpre]; simp; omega
    have hw : IntKind.wrap .i64 (((pre.length : Nat) : Int) + 1) = (((pre ++ [x]).length : Nat) : Int) := by
      rw [w64 (pre.length + 1) (by omega) (by have := congrArg List.length hpre; simp at this; omega)]
      simp
    have hia := nam_at (pre := pre) (suf := r) (x := x) (v := a) (by rw [← hpre]; exact ha) (i := ((pre.length : Nat) : Int)) rfl
    have nxt := ih (pre ++ [x]) (by rw [hpre]; simp)
    rw [stencilref5_alone.p11110100_eq]
    simp only [h4, Option.bind_some, ha.len, hlt, decide_true, cond_true, hia, ld1, good_spec x (by omega), Out.on, asB, hw, nxt, List.all_cons]
    cases okT x <;> simp

open Classical in
theorem alone_ref {cs : List AV} {h : Hd} {parts : Va} (h1 : One h parts cs) (hs : nsz h.names ≤ 1050000) (hss : h.s.size ≤ 1050000) (st : Sto) : CallR ap 57 [.agg cs] st = some (.ret (.bool (alone h parts.len)), st) := by
  have hall := h1.all
  have hc : AV.cells (.agg cs) = cs := rfl
  obtain ⟨a, p, hcs, hIn, ha, hp⟩ := h1
  rw [stencilref5_alone.call]
  refine ret_keep (st' := st ++ [Ob.cells 0 cs 0]) ?_ rfl rfl (Keeps.app (Nat.le_refl _))
  rw [stencilref5_alone.b_eq, hc, if_pos hall]
  obtain ⟨S, hSe⟩ : ∃ S, S = st ++ [Ob.cells 0 cs 0] := ⟨_, rfl⟩
  have hS : S[st.length]? = some (.cells 0 cs 0) := by rw [hSe]; simp
  rw [← hSe]
  have g0 : ld false 1 S (.mp st.length 0 0) = some (.int .i64 h.k) := m_get hS (by rw [hcs]; rfl)
  have g1 : ld false 1 S (.mp st.length 0 1) = some (.bool h.b) := m_get hS (by rw [hcs]; rfl)
  have g2 : ld false 1 S (.mp st.length 0 2) = some (.int .i64 h.n) := m_get hS (by rw [hcs]; rfl)
  have g3 : ld false 1 S (.mp st.length 0 3) = some (.str h.s) := m_get hS (by rw [hcs]; rfl)
  have g4 : ld false 1 S (.mp st.length 0 4) = some a := m_get hS (by rw [hcs]; rfl)
  have g5 : ld false 1 S (.mp st.length 0 5) = some p := m_get hS (by rw [hcs]; rfl)
  have c1 : (0 : Int) < ((h.names.length : Nat) : Int) ↔ 0 < h.names.length := by omega
  have c2 : (0 : Int) < ((parts.len : Nat) : Int) ↔ 0 < parts.len := by omega
  have c3 : ((h.names.length : Nat) : Int) = ((parts.len : Nat) : Int) ↔ h.names.length = parts.len := by omega
  have hloop := names_ref hS hcs ha hs h.names [] rfl
  simp only [List.length_nil, Int.natCast_zero] at hloop
  have e1 : ∀ t, stencilref5_alone.p11101 st.length t S = some ⟨.ret (.bool (!t && (h.names.all okT && decide h.names.Nodup))), none, S⟩ := by
    intro t
    rw [stencilref5_alone.p11101_eq]
    cases t with
    | true => rfl
    | false => simp only [cond_false, hloop, Bool.not_false, Bool.true_and]
  have e2 : ∀ t, stencilref5_alone.p1101 st.length t S = some ⟨.ret (.bool (!t && (okT h.s && (!(decide (h.k = 6) && !decide (h.names.length = parts.len)) && (h.names.all okT && decide h.names.Nodup))))), none, S⟩ := by
    intro t
    rw [stencilref5_alone.p1101_eq]
    cases t with
    | true => rfl
    | false =>
      simp only [cond_false, g3, Option.bind_some, good_spec h.s (by omega), Out.on, asB, g0, asI, if_true, g4, g5, ha.len, hp.len, c3, e1]
      cases okT h.s <;> cases decide (h.k = 6) <;> simp
  have e3 : ∀ t, stencilref5_alone.p101 st.length t S = some ⟨.ret (.bool (!t && (!((decide (0 < parts.len) && (!decide (h.k = 5) && !decide (h.k = 6))) || (decide (0 < h.names.length) && !decide (h.k = 6))) && (okT h.s && (!(decide (h.k = 6) && !decide (h.names.length = parts.len)) && (h.names.all okT && decide h.names.Nodup)))))), none, S⟩ := by
    intro t
    rw [stencilref5_alone.p101_eq]
    cases t with
    | true => rfl
    | false =>
      simp only [cond_false, Option.bind_some, g0, asI, if_true, g4, g5, ha.len, hp.len, c1, c2, e2]
      cases decide (0 < parts.len) <;> cases decide (h.k = 5) <;> cases decide (h.k = 6) <;> cases decide (0 < h.names.length) <;> simp
  have hn := namesB_eq h.names [] (by simp)
  simp only [List.nil_append] at hn
  have key : ∀ (B K2 N0 K3 S0 K4 L0 K6 M0 K5 E OK NM : Bool), (!(B && !K2) && (!(!N0 && !K3) && (!(!S0 && !K4) && (!((M0 && (!K5 && !K6)) || (L0 && !K6)) && (OK && (!(K6 && !E) && NM)))))) = (!(B && !K2) && (!(!N0 && !K3) && (!(!S0 && !K4) && (!(L0 && !K6) && (!(M0 && (!K5 && !K6)) && (!(K6 && !E) && (NM && OK))))))) := by decide
  have fin : stencilref5_alone.p101 st.length (!(!(h.b && !decide (h.k = 2)) && (!(!decide (h.n = 0) && !decide (h.k = 3)) && !(!decide (h.s = ⟨#[]⟩) && !decide (h.k = 4))))) S = some ⟨.ret (.bool (alone h parts.len)), none, S⟩ := by
    rw [e3]
    unfold alone
    rw [hn, ← key]
    simp only [Bool.not_not, Bool.and_assoc]
  rw [← fin]
  simp only [g0, g1, g2, g3, Option.bind_some, guardT, gOn, asI, asS, if_true]
  cases h.b <;> cases decide (h.k = 2) <;> cases decide (h.n = 0) <;> cases decide (h.k = 3) <;> cases decide (h.s = ⟨#[]⟩) <;> cases decide (h.k = 4) <;> rfl

/-- Behind a row of values: how many, a fault. -/
noncomputable def lkL : Va → Nat → Nat → Nat × Nat
  | .nil, m, _ => (m, 0)
  | .cons h parts rest, m, d =>
    if fault m d h parts.len = 0 then
      (if (lkL parts (m + 1) (d + 1)).2 = 0 then lkL rest (lkL parts (m + 1) (d + 1)).1 d else lkL parts (m + 1) (d + 1))
    else (m, fault m d h parts.len)

theorem fault_le {m d : Nat} {h : Hd} {k : Nat} (hf : fault m d h k = 0) : m + 1 ≤ 16384 ∧ d ≤ 24 := by
  unfold fault at hf
  split at hf
  · cases hf
  · split at hf
    · cases hf
    · omega
theorem lkL_le : ∀ (ts : Va) (m d : Nat), m ≤ 16384 → m ≤ (lkL ts m d).1 ∧ (lkL ts m d).1 ≤ 16384 := by
  intro ts
  induction ts with
  | nil => intro m d h; simp [lkL, h]
  | cons h parts rest ihp ihr =>
    intro m d hm
    simp only [lkL]
    split
    · rename_i hf
      have := fault_le hf
      have hp := ihp (m + 1) (d + 1) (by omega)
      split
      · have := ihr (lkL parts (m + 1) (d + 1)).1 d hp.2; omega
      · omega
    · simp [hm]

theorem known_spec (k : Int) (st : Sto) : CallR ap 56 [.int .i64 k] st = some (.ret (.bool (!decide (k < 1 ∨ 6 < k))), st) := by
  rw [stencilref5_known.call]
  refine ret_keep ?_ rfl rfl (Keeps.refl _ _)
  rw [stencilref5_known.b_eq]
  by_cases h1 : 1 ≤ k
  · by_cases h2 : k ≤ 6
    · have : ¬ (k < 1 ∨ 6 < k) := by omega
      simp only [h1, h2, this, decide_true, decide_false, cond_true, Bool.not_false]
    · have : (k < 1 ∨ 6 < k) := by omega
      simp only [h1, h2, this, decide_true, decide_false, cond_true, Bool.not_true]
  · have : (k < 1 ∨ 6 < k) := by omega
    simp only [h1, this, decide_true, decide_false, cond_false, Bool.not_true]

def LookOk (ts : Va) : Prop := ∀ (n : Nat) (S : Sto) (cs : List AV) (p : AV) (i L m d : Nat), S[n]? = some (.cells 0 cs 0) → cs[5]? = some p → Fr ts p i L → ts.sz ≤ 1050000 → m ≤ 16384 → d ≤ 24 →
  stencilref5_look.p1111110100 (.int .i64 ((m : Nat) : Int)) ((d : Nat) : Int) n ((i : Nat) : Int) S = some ⟨.ret (.tup [.int .i64 (((lkL ts m (d + 1)).1 : Nat) : Int), .int .i64 (((lkL ts m (d + 1)).2 : Nat) : Int)]), none, S⟩

theorem look_of {h : Hd} {parts : Va} {cs : List AV} (H : LookOk parts) (h1 : One h parts cs) (hs : (Va.cons h parts .nil).sz ≤ 1050000) {m d : Nat} (hm : m ≤ 16384) (hd : d ≤ 25) (st : Sto) :
    CallR ap 38 [.agg cs, .int .i64 ((m : Nat) : Int), .int .i64 ((d : Nat) : Int)] st = some (.ret (.tup [.int .i64 (((lkL (.cons h parts .nil) m d).1 : Nat) : Int), .int .i64 (((lkL (.cons h parts .nil) m d).2 : Nat) : Int)]), st) := by
  simp only [Va.sz] at hs
  have hall := h1.all
  have hc : AV.cells (.agg cs) = cs := rfl
  have hcs6 : cs.length = 6 := by obtain ⟨a, p, rfl, _⟩ := h1; rfl
  have hal := alone_ref h1 (by omega) (by omega)
  obtain ⟨a, p, hcs, hIn, ha, hp⟩ := h1
  rw [stencilref5_look.call]
  refine ret_keep (st' := st ++ [Ob.cells 0 cs 0]) ?_ rfl rfl (Keeps.app (Nat.le_refl _))
  rw [stencilref5_look.b_eq, hc, if_pos hall]
  obtain ⟨S, hSe⟩ : ∃ S, S = st ++ [Ob.cells 0 cs 0] := ⟨_, rfl⟩
  have hS : S[st.length]? = some (.cells 0 cs 0) := by rw [hSe]; simp
  rw [← hSe]
  have g0 : ld false 1 S (.mp st.length 0 0) = some (.int .i64 h.k) := m_get hS (by rw [hcs]; rfl)
  have gA : ld true 6 S (.mp st.length 0 0) = some (.agg cs) := m_all hS hcs6
  have c1 : ((16384 : Int) ≤ ((m : Nat) : Int)) ↔ 16384 < m + 1 := by omega
  have c2 : ((24 : Int) < ((d : Nat) : Int)) ↔ 24 < d := by omega
  have w1 : IntKind.wrap .i64 (((m : Nat) : Int) + 1) = ((m + 1 : Nat) : Int) := w64 _ (by omega) (by omega)
  simp only [c1, c2, g0, Option.bind_some, known_spec, Out.on, asB, gA, hal, w1]
  simp only [lkL]
  unfold fault
  by_cases f1 : 16384 < m + 1
  · simp [f1]
  · by_cases f2 : 24 < d
    · simp [f1, f2]
    · by_cases f3 : (h.k < 1 ∨ 6 < h.k)
      · simp [f1, f2, f3]
      · simp only [f1, f2, f3, decide_false, cond_false, Bool.not_false, Bool.not_true, if_false]
        cases hb : alone h parts.len with
        | false => simp
        | true =>
          have := H st.length S cs p 0 parts.len (m + 1) d hS (by rw [hcs]; rfl) (Fr.of hp (by omega)) (by omega) (by omega) (by omega)
          rw [show ((0 : Nat) : Int) = 0 from rfl] at this
          simp only [Bool.not_true, cond_false, if_true, this]
          split
          · rename_i h0; simp only [h0]
          · rfl

theorem look_all (ts : Va) : LookOk ts := by
  induction ts with
  | nil =>
    intro n S cs p i L m d hS hp hF hs hm hd
    obtain ⟨hL, hiL, _, _, _, _⟩ := hF
    simp only [Va.len, Nat.add_zero] at hiL
    subst hiL
    have g5 : ld false 1 S (.mp n 0 5) = some p := m_get hS hp
    rw [stencilref5_look.p1111110100_eq]
    simp only [g5, Option.bind_some, hL, Int.lt_irrefl, decide_false, cond_false, lkL]
    rfl
  | cons h parts rest ihp ihr =>
    intro n S cs p i L m d hS hp hF hs hm hd
    obtain ⟨hL, hiL, hL2, hpc, hpc2, hrow⟩ := hF
    simp only [Va.len] at hiL
    simp only [Va.sz] at hs
    obtain ⟨row, tok, rfl, hr⟩ : ∃ row tok, p = .is row L tok ∧ Row (.cons h parts rest) (row.drop (i * 6)) := by
      rcases hrow with hrow | hrow
      · cases hrow
      · exact hrow
    obtain ⟨a, pl, hIn, hna, hpl, hr', hrl, hia⟩ := row_at hr
    have hia := hia L tok (by omega)
    have g5 : ld false 1 S (.mp n 0 5) = some (.is row L tok) := m_get hS hp
    have hlt : (((i : Nat) : Int) < ((L : Nat) : Int)) := by omega
    have w1 : IntKind.wrap .i64 (((i : Nat) : Int) + 1) = ((i + 1 : Nat) : Int) := w64 _ (by omega) (by omega)
    have w2 : IntKind.wrap .i64 (((d : Nat) : Int) + 1) = ((d + 1 : Nat) : Int) := w64 _ (by omega) (by omega)
    have l6 : ld true 6 S (.ip (hcells h a pl)) = some (.agg (hcells h a pl)) := rfl
    have hlook := look_of ihp (h := h) (cs := hcells h a pl) ⟨a, pl, rfl, hIn, hna, hpl⟩ (by simp only [Va.sz]; omega) (m := m) (d := d + 1) hm (by omega) S
    rw [stencilref5_look.p1111110100_eq]
    simp only [g5, Option.bind_some, lenL, hlt, decide_true, cond_true, hia, l6, w2, hlook, Out.on, ext, List.getElem?_cons_zero, List.getElem?_cons_succ, asI, if_true, w1]
    simp only [lkL]
    have c0 : ∀ x : Nat, ((x : Int) = 0) ↔ x = 0 := fun x => by omega
    by_cases hf : fault m (d + 1) h parts.len = 0
    · simp only [hf, if_true]
      by_cases hk : (lkL parts (m + 1) (d + 1 + 1)).2 = 0
      · have hle := lkL_le parts (m + 1) (d + 1 + 1) (fault_le hf).1
        have := ihr n S cs (.is row L tok) (i + 1) L (lkL parts (m + 1) (d + 1 + 1)).1 d hS hp ⟨rfl, by omega, hL2, rfl, rfl, .inr ⟨row, tok, rfl, hr'⟩⟩ (by omega) hle.2 hd
        simp only [hk, if_true, c0, decide_true, Bool.not_true, cond_false, this]
      · simp only [hk, if_false, c0, decide_false, Bool.not_false, cond_true]
    · simp only [hf, if_false, c0, decide_false, Bool.not_false, cond_true]

theorem look_spec {h : Hd} {parts : Va} {cs : List AV} (h1 : One h parts cs) (hs : (Va.cons h parts .nil).sz ≤ 1050000) (st : Sto) :
    CallR ap 38 [.agg cs, .int .i64 0, .int .i64 1] st = some (.ret (.tup [.int .i64 (((lkL (.cons h parts .nil) 0 1).1 : Nat) : Int), .int .i64 (((lkL (.cons h parts .nil) 0 1).2 : Nat) : Int)]), st) := look_of (look_all parts) h1 hs (m := 0) (d := 1) (by omega) (by omega) st

/-! ### How deep -/
def deepL : Va → Nat
  | .nil => 0
  | .cons h parts rest => max (deepL parts + 1) (deepL rest)
theorem deepL_le : ∀ ts : Va, deepL ts ≤ ts.sz := by
  intro ts
  induction ts with
  | nil => simp [deepL]
  | cons h parts rest ihp ihr => simp only [deepL, Va.sz]; omega

def DeepOk (ts : Va) : Prop := ∀ (n : Nat) (S : Sto) (cs : List AV) (p : AV) (i L q : Nat), S[n]? = some (.cells 0 cs 0) → cs[5]? = some p → Fr ts p i L → ts.sz ≤ 1050000 → q ≤ 1050000 →
  stencilref5_deep.p110100 n ((q : Nat) : Int) ((i : Nat) : Int) S = some ⟨.ret (.int .i64 ((max q (deepL ts) + 1 : Nat) : Int)), none, S⟩

theorem deep_of {h : Hd} {parts : Va} {cs : List AV} (H : DeepOk parts) (h1 : One h parts cs) (hs : parts.sz ≤ 1050000) (st : Sto) :
    CallR ap 39 [.agg cs] st = some (.ret (.int .i64 ((deepL parts + 1 : Nat) : Int)), st) := by
  have hall := h1.all
  have hc : AV.cells (.agg cs) = cs := rfl
  obtain ⟨a, p, hcs, hIn, ha, hp⟩ := h1
  rw [stencilref5_deep.call]
  refine ret_keep (st' := st ++ [Ob.cells 0 cs 0]) ?_ rfl rfl (Keeps.app (Nat.le_refl _))
  rw [stencilref5_deep.b_eq, hc, if_pos hall]
  have := H st.length (st ++ [Ob.cells 0 cs 0]) cs p 0 parts.len 0 (by simp) (by rw [hcs]; rfl) (Fr.of hp hs) hs (by omega)
  rw [show ((0 : Nat) : Int) = 0 from rfl] at this
  rw [this]
  simp

theorem deep_all (ts : Va) : DeepOk ts := by
  induction ts with
  | nil =>
    intro n S cs p i L q hS hp hF hs hq
    obtain ⟨hL, hiL, _, _, _, _⟩ := hF
    simp only [Va.len, Nat.add_zero] at hiL
    subst hiL
    have g5 : ld false 1 S (.mp n 0 5) = some p := m_get hS hp
    have w1 : IntKind.wrap .i64 (((q : Nat) : Int) + 1) = ((q + 1 : Nat) : Int) := w64 _ (by omega) (by omega)
    rw [stencilref5_deep.p110100_eq]
    simp only [g5, Option.bind_some, hL, Int.lt_irrefl, decide_false, cond_false, deepL, Nat.max_zero, w1]
  | cons h parts rest ihp ihr =>
    intro n S cs p i L q hS hp hF hs hq
    obtain ⟨hL, hiL, hL2, hpc, hpc2, hrow⟩ := hF
    simp only [Va.len] at hiL
    simp only [Va.sz] at hs
    obtain ⟨row, tok, rfl, hr⟩ : ∃ row tok, p = .is row L tok ∧ Row (.cons h parts rest) (row.drop (i * 6)) := by
      rcases hrow with hrow | hrow
      · cases hrow
      · exact hrow
    obtain ⟨a, pl, hIn, hna, hpl, hr', hrl, hia⟩ := row_at hr
    have hia := hia L tok (by omega)
    have g5 : ld false 1 S (.mp n 0 5) = some (.is row L tok) := m_get hS hp
    have hlt : (((i : Nat) : Int) < ((L : Nat) : Int)) := by omega
    have w1 : IntKind.wrap .i64 (((i : Nat) : Int) + 1) = ((i + 1 : Nat) : Int) := w64 _ (by omega) (by omega)
    have l6 : ld true 6 S (.ip (hcells h a pl)) = some (.agg (hcells h a pl)) := rfl
    have hde := deepL_le parts
    have hdeep := deep_of ihp (h := h) (cs := hcells h a pl) ⟨a, pl, rfl, hIn, hna, hpl⟩ (by omega) S
    have := ihr n S cs (.is row L tok) (i + 1) L (max q (deepL parts + 1)) hS hp ⟨rfl, by omega, hL2, rfl, rfl, .inr ⟨row, tok, rfl, hr'⟩⟩ (by omega) (by omega)
    rw [stencilref5_deep.p110100_eq]
    simp only [g5, Option.bind_some, lenL, hlt, decide_true, cond_true, hia, l6, hdeep, Out.on, asI, if_true, w1, mxI_nat, this]
    simp only [deepL, Nat.max_assoc]

/-! ### The same -/
theorem goC_eq : ∀ (ts : Va) (m r d : Nat), m ≤ 16384 → ((lkL ts m d).2 = 0 → go 25 stepC ts (m, r) d = (((lkL ts m d).1, r), true)) ∧ ((lkL ts m d).2 ≠ 0 → (go 25 stepC ts (m, r) d).2 = false ∧ (go 25 stepC ts (m, r) d).1.2 = (lkL ts m d).2) := by
  intro ts
  induction ts with
  | nil => intro m r d _; simp [lkL, go]
  | cons h parts rest ihp ihr =>
    intro m r d hm
    by_cases hf : fault m d h parts.len = 0
    · have hfl := fault_le hf
      have hd : d < 25 := by omega
      have hst : stepC (m, r) d h parts.len = ((m + 1, r), true) := by unfold stepC; rw [if_pos hf]
      obtain ⟨p1, p2⟩ := ihp (m + 1) r (d + 1) hfl.1
      have hle := lkL_le parts (m + 1) (d + 1) hfl.1
      simp only [lkL, go, hst, if_true, hf, hd]
      by_cases hk : (lkL parts (m + 1) (d + 1)).2 = 0
      · simp only [hk, if_true, p1 hk]
        exact ihr _ r d hle.2
      · obtain ⟨q1, q2⟩ := p2 hk
        simp only [hk, if_false, q1, Bool.false_eq_true]
        exact ⟨fun h => h.elim, fun _ => ⟨trivial, q2⟩⟩
    · have hst : stepC (m, r) d h parts.len = ((m + 1, fault m d h parts.len), false) := by unfold stepC; rw [if_neg hf]
      simp only [lkL, go, hst, hf, if_false, Bool.false_eq_true]
      exact ⟨fun h => h.elim, fun _ => ⟨trivial, trivial⟩⟩
theorem codeC_eq (h : Hd) (parts : Va) : codeC h parts = (lkL (.cons h parts .nil) 0 1).2 := by
  obtain ⟨a, b⟩ := goC_eq (.cons h parts .nil) 0 0 1 (by omega)
  unfold codeC
  by_cases hk : (lkL (.cons h parts .nil) 0 1).2 = 0
  · rw [a hk, hk]; rfl
  · obtain ⟨c, e⟩ := b hk
    rw [c, e]; rfl

theorem deep_nil {ts : Va} {m d : Nat} (hd : 24 < d) (h : (lkL ts m d).2 = 0) : ts = .nil := by
  cases ts with
  | nil => rfl
  | cons hh parts rest =>
    simp only [lkL] at h
    split at h
    · rename_i hf; have := fault_le hf; omega
    · rename_i hf; exact absurd h hf

theorem goN_eq : ∀ (ts : Va) (m q d : Nat), m ≤ 16384 → (lkL ts m d).2 = 0 → (go 24 stepN ts q d).1 + m = q + (lkL ts m d).1 := by
  intro ts
  induction ts with
  | nil => intro m q d _ _; simp [lkL, go]
  | cons h parts rest ihp ihr =>
    intro m q d hm h0
    simp only [lkL] at h0 ⊢
    split at h0
    · rename_i hf
      have hfl := fault_le hf
      have hle := lkL_le parts (m + 1) (d + 1) hfl.1
      split at h0
      · rename_i hk
        rw [if_pos hf, if_pos hk]
        simp only [go, stepN, if_true]
        by_cases hd : d < 24
        · simp only [hd, if_true]
          rw [if_pos (stepN_go 24 parts (q + 1) (d + 1)).1]
          have e1 := ihp (m + 1) (q + 1) (d + 1) hfl.1 hk
          have e2 := ihr (lkL parts (m + 1) (d + 1)).1 (go 24 stepN parts (q + 1) (d + 1)).1 d hle.2 h0
          omega
        · simp only [hd, if_false, if_true]
          obtain rfl := deep_nil (by omega) hk
          simp only [lkL] at h0 ⊢
          have e2 := ihr (m + 1) (q + 1) d hfl.1 h0
          omega
      · rename_i hk; exact absurd h0 hk
    · rename_i hf; exact absurd h0 hf
theorem goD_eq : ∀ (ts : Va) (m q d : Nat), m ≤ 16384 → 1 ≤ d → d ≤ q + 1 → (lkL ts m d).2 = 0 → (go 24 stepD ts q d).1 = max q (d - 1 + deepL ts) := by
  intro ts
  induction ts with
  | nil => intro m q d _ _ _ _; simp only [go, deepL]; omega
  | cons h parts rest ihp ihr =>
    intro m q d hm h1 hq h0
    simp only [lkL] at h0
    split at h0
    · rename_i hf
      have hfl := fault_le hf
      have hle := lkL_le parts (m + 1) (d + 1) hfl.1
      split at h0
      · rename_i hk
        simp only [go, stepD, if_true]
        by_cases hd : d < 24
        · simp only [hd, if_true]
          rw [if_pos (stepD_go 24 parts (max q d) (d + 1))]
          have e1 := ihp (m + 1) (max q d) (d + 1) hfl.1 (by omega) (by omega) hk
          have e2 := ihr (lkL parts (m + 1) (d + 1)).1 (go 24 stepD parts (max q d) (d + 1)).1 d hle.2 h1 (by omega) h0
          rw [e2, e1]
          simp only [deepL]
          omega
        · simp only [hd, if_false, if_true]
          obtain rfl := deep_nil (by omega) hk
          simp only [lkL] at h0
          have e2 := ihr (m + 1) (max q d) d hfl.1 h1 (by omega) h0
          rw [e2]
          simp only [deepL]
          omega
      · rename_i hk; exact absurd h0 hk
    · rename_i hf; exact absurd h0 hf

theorem countC_eq (h : Hd) (parts : Va) : countC h parts = if (lkL (.cons h parts .nil) 0 1).2 = 0 then (lkL (.cons h parts .nil) 0 1).1 else 0 := by
  unfold countC
  rw [codeC_eq]
  split
  · rename_i hk
    have := goN_eq (.cons h parts .nil) 0 0 1 (by omega) hk
    omega
  · rfl
theorem depthC_eq (h : Hd) (parts : Va) : depthC h parts = if (lkL (.cons h parts .nil) 0 1).2 = 0 then deepL parts + 1 else 0 := by
  unfold depthC
  rw [codeC_eq]
  split
  · rename_i hk
    have := goD_eq (.cons h parts .nil) 0 0 1 (by omega) (by omega) (by omega) hk
    rw [this]
    simp only [deepL]
    omega
  · rfl

theorem refCheck_spec {h : Hd} {parts : Va} {cs : List AV} (h1 : One h parts cs) (hs : (Va.cons h parts .nil).sz ≤ 1050000) (st : Sto) : CallR ap 15 [.agg cs] st = some (.ret (.int .i64 ((codeC h parts : Nat) : Int)), st) := by
  have hc : AV.cells (.agg cs) = cs := rfl
  have hcs6 : cs.length = 6 := by obtain ⟨a, p, rfl, _⟩ := h1; rfl
  have hld : ld true 6 (st ++ [Ob.cells 0 cs 0]) (.mp st.length 0 0) = some (.agg cs) := m_all (g := 0) (fz := 0) (by simp) hcs6
  rw [stencilref5_Check.call]
  refine ret_keep (st' := st ++ [Ob.cells 0 cs 0]) ?_ rfl rfl (Keeps.app (Nat.le_refl _))
  rw [stencilref5_Check.b_eq, hc, if_pos h1.all]
  simp only [hld, Option.bind_some, look_spec h1 hs, Out.on, ext, List.getElem?_cons_zero, List.getElem?_cons_succ, codeC_eq]
theorem refCount_spec {h : Hd} {parts : Va} {cs : List AV} (h1 : One h parts cs) (hs : (Va.cons h parts .nil).sz ≤ 1050000) (st : Sto) : CallR ap 17 [.agg cs] st = some (.ret (.int .i64 ((countC h parts : Nat) : Int)), st) := by
  have hc : AV.cells (.agg cs) = cs := rfl
  have hcs6 : cs.length = 6 := by obtain ⟨a, p, rfl, _⟩ := h1; rfl
  have hld : ld true 6 (st ++ [Ob.cells 0 cs 0]) (.mp st.length 0 0) = some (.agg cs) := m_all (g := 0) (fz := 0) (by simp) hcs6
  have c0 : ∀ x : Nat, ((x : Int) = 0) ↔ x = 0 := fun x => by omega
  rw [stencilref5_Count.call]
  refine ret_keep (st' := st ++ [Ob.cells 0 cs 0]) ?_ rfl rfl (Keeps.app (Nat.le_refl _))
  rw [stencilref5_Count.b_eq, hc, if_pos h1.all]
  simp only [hld, Option.bind_some, look_spec h1 hs, Out.on, ext, List.getElem?_cons_zero, List.getElem?_cons_succ, countC_eq, asI, if_true, c0]
  by_cases hk : (lkL (.cons h parts .nil) 0 1).2 = 0
  · simp [hk]
  · simp [hk]
theorem refDepth_spec {h : Hd} {parts : Va} {cs : List AV} (h1 : One h parts cs) (hs : (Va.cons h parts .nil).sz ≤ 1050000) (st : Sto) : CallR ap 16 [.agg cs] st = some (.ret (.int .i64 ((depthC h parts : Nat) : Int)), st) := by
  have hc : AV.cells (.agg cs) = cs := rfl
  have hcs6 : cs.length = 6 := by obtain ⟨a, p, rfl, _⟩ := h1; rfl
  have hld : ld true 6 (st ++ [Ob.cells 0 cs 0]) (.mp st.length 0 0) = some (.agg cs) := m_all (g := 0) (fz := 0) (by simp) hcs6
  have c0 : ∀ x : Nat, ((x : Int) = 0) ↔ x = 0 := fun x => by omega
  have hs' := hs
  simp only [Va.sz] at hs'
  rw [stencilref5_Depth.call]
  refine ret_keep (st' := st ++ [Ob.cells 0 cs 0]) ?_ rfl rfl (Keeps.app (Nat.le_refl _))
  rw [stencilref5_Depth.b_eq, hc, if_pos h1.all]
  simp only [hld, Option.bind_some, refCheck_spec h1 hs, Out.on, asI, if_true, c0, depthC_eq, codeC_eq, deep_of (deep_all parts) h1 (show parts.sz ≤ 1050000 by omega)]
  by_cases hk : (lkL (.cons h parts .nil) 0 1).2 = 0
  · simp [hk]
  · simp [hk]
end Go.Proofs.YtiiooldjegoikaaDoor
