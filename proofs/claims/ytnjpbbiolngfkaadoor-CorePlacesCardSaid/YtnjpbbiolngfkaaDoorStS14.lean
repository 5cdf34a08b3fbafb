/- Steps, and whole calls. -/
import Derived.Test.YtnjpbbiolngfkaaDoorStS13
import Derived.Test.YtnjpbbiolngfkaaDoorStD4
import Derived.Laws.Sem
import Derived.RangeFuncIn
namespace Go.St
open Go.RowKit
set_option linter.unusedVariables false
set_option linter.unusedSimpArgs false

def AItem.item : AItem → Item
  | .code _ c => .code c
  | .blk id => .inBlock id
  | .lp _ b => .inLoop b
  | .scope _ b => .inScope b
  | .begin => .beginRound

theorem exitK_item {R : Type} {id : Nat} {yes : List AItem → Option R} {no : Option R} {r : R} : ∀ {t : List AItem}, exitK id yes no t = some r →
    (∃ t', exitTo id (t.map AItem.item) = some (t'.map AItem.item) ∧ yes t' = some r) ∨ (exitTo id (t.map AItem.item) = none ∧ no = some r) := by
  intro t
  induction t with
  | nil => intro h; exact .inr ⟨rfl, h⟩
  | cons x t ih =>
    intro h
    cases x with
    | blk i =>
      simp only [exitK, List.map_cons, AItem.item, exitTo] at h ⊢
      cases hi : i == id <;> simp only [hi, cond_true, cond_false, Bool.false_eq_true, if_true, if_false] at h ⊢
      · exact ih h
      · exact .inl ⟨t, rfl, h⟩
    | code p c => exact ih h
    | lp p b => exact ih h
    | scope p b => exact ih h
    | begin => exact ih h

theorem gotoA_item {l : Nat} : ∀ {t t' : List AItem}, gotoA l t = some t' → gotoIn l (t.map AItem.item) = some (t'.map AItem.item) := by
  intro t
  induction t with
  | nil => intro t' h; simp [gotoA] at h
  | cons x t ih =>
    intro t' h
    cases x with
    | scope p b =>
      simp only [gotoA, List.map_cons, AItem.item, gotoIn] at h ⊢
      cases hb : findLabel b l with
      | none => simp only [hb] at h ⊢; exact ih h
      | some rest => simp only [hb] at h ⊢; cases h; rfl
    | code p c => exact ih h
    | lp p b => exact ih h
    | blk i => exact ih h
    | begin => exact ih h

theorem stepR_inScope {P : Program} {b : Frame} {a : Act} {k : List Item} {cs : List Frame} {w : World} {c : Code} : step P (lone (b.atR a (.inScope c :: k)) cs w) = .next (lone (b.atR a k) cs w) :=
  step_lone_go (by simp [stepG, stepG.exec, Frame.atR])
theorem stepR_scope {P : Program} {b : Frame} {a : Act} {k : List Item} {cs : List Frame} {w : World} {c : Code} : step P (lone (b.atR a (.code (.scope c) :: k)) cs w) = .next (lone (b.atR a (.code c :: .inScope c :: k)) cs w) :=
  step_lone_go (by simp [stepG, stepG.exec, Frame.atR])
theorem step_collected {P : Program} {fr : Frame} {cs : List Frame} {w w' : World} {r : Nat} {ds : List Deferred} (hm : fr.mode = .returning) (hd : fr.defers = { target := .collected r, args := #[] } :: ds)
    (h : (Instr.takeDeferred r).run P w = .ok [] w') : step P (lone fr cs w) = .next (lone { fr with defers := ds } cs w') :=
  step_lone_go (by simp [stepG, unwind, hm, hd, Sem.runT_eq, h])

section
variable {P : Program} {A : AProg} {w0 : World} {G : Gh} {st st' : Sto} {w : World} {R : Type}

theorem keep_VRs (l : List Nat) : ∀ (i : Nat) {as : List AV} {vs : List Value}, VRs G as vs → VRs G (keep l i as) vs := by
  intro i as
  induction as generalizing i with
  | nil => intro vs h; exact h
  | cons x as ih =>
    intro vs h
    obtain ⟨v, vs, rfl, h1, h2⟩ := h.head
    refine VRs.cons ?_ (ih (i + 1) h2)
    cases l.contains i
    · exact .any v
    · exact h1

theorem keepAt_R {nt : Note} {p : Path} {env : List AV} {dfr : List ADef} {a : Act} (h : ActR G env dfr a) : ActR G (nt.keepAt p env) dfr a := by
  unfold Note.keepAt
  split
  · exact ⟨keep_VRs _ 0 h.vals, h.dfr⟩
  · exact h

theorem r_load (hT : TabOk P A) (hR : Rel A.bld A.u8 w0 G st w) {t : TypeId} {td : TD} (ht : assoc t A.tab = some td) {p v : AV} {pv : Value} (h : ld td.isAgg td.size st p = some v) (hp : VR G p pv) :
    ∃ b o v', pv = .pointer (some ⟨b, o, none⟩) ∧ (loadVar t ⟨b, o, none⟩).run P w = .ok v' w ∧ VR G v v' := by
  obtain ⟨i, d, hi, hd, hs, _, hk, _⟩ := (hT t td ht).ok
  unfold ld at h
  cases hc : ldCells st p td.size with
  | none => simp [hc] at h
  | some cs =>
    simp only [hc, Option.bind_some] at h
    obtain ⟨b, o, vs, rfl, hv, hn, hcell⟩ := ldCells_sound hR hc hp
    have hcells : (loadCells ⟨b, o, none⟩ td.size).run P w = .ok vs.toArray w := by
      rw [← hn]
      exact run_loadCells_list w ⟨b, o, none⟩ vs fun j v hj => by rw [add_lit]; exact hcell j v hj
    unfold pack at h
    cases hag : td.isAgg with
    | true =>
      simp only [hag, if_true] at h
      cases h
      refine ⟨b, o, .agg vs.toArray, rfl, ?_, (.agg cs vs.toArray (by simpa using hv.len) fun j a v ha hv' => hv.at_ j a v ha (by simpa using hv'))⟩
      simp [loadVar, r_isAgg hd hk, hag, r_size hi, hs, hcells]
    | false =>
      simp only [hag, Bool.false_eq_true, if_false] at h
      split at h
      · rename_i c
        cases h
        obtain ⟨v', ws, rfl, h1, h2⟩ := hv.head
        have hw : w.cell? ⟨b, o, none⟩ = some v' := by have := hcell 0 v' rfl; simpa using this
        refine ⟨b, o, v', rfl, ?_, h1⟩
        simp [loadVar, r_isAgg hd hk, hag, hw]
      · cases h

theorem evT {env : List AV} {dfr : List ADef} {a : Act} (hA : ActR G env dfr a) (t : Tmp) : VR G (env.getD t (.tup [])) (a.tmps.getD t undef) :=
  evA_VR (A := ⟨[], [], [], [], [], [], 0, 0, false, [], [], []⟩) hA (fun g cs hg => by cases hg) (.tmp t)

def resS (tmps : Array Value) : ResultVar → Sem Value
  | .tmp t => Pure.pure (tmps.getD t undef)
  | .cell c t => do loadVar t (← asAddr (tmps.getD c undef))
theorem results_eq (fn : Func) (tmps : Array Value) : results fn tmps = (do
    let vs ← fn.results.mapM (resS tmps)
    Pure.pure (if h : vs.size = 1 then vs[0] else .tuple vs)) := rfl

theorem resA_sound (hT : TabOk P A) (hR : Rel A.bld A.u8 w0 G st w) {env : List AV} {dfr : List ADef} {a : Act} (hA : ActR G env dfr a) : ∀ {rs : List ResultVar} {k : List AV → Option Res} {r : Res}, resA A env st rs k = some r →
    ∃ xs ys, k xs = some r ∧ (rs.mapM (resS a.tmps) : Sem (List Value)).run P w = .ok ys w ∧ VRs G xs ys := by
  intro rs
  induction rs with
  | nil => intro k r h; exact ⟨[], [], h, by simp, VRs.nil G⟩
  | cons x rs ih =>
    intro k r h
    cases x with
    | tmp t =>
      simp only [resA] at h
      obtain ⟨xs, ys, h1, h2, h3⟩ := ih h
      refine ⟨_ :: xs, _ :: ys, h1, ?_, VRs.cons (evT hA t) h3⟩
      simp only [List.mapM_cons, resS, Sem.run_bind, Sem.run_pure, Result.andThen_ok, h2]
    | cell c t =>
      simp only [resA] at h
      obtain ⟨td, ht, h⟩ := bind_some h
      obtain ⟨v, hv, h⟩ := bind_some h
      obtain ⟨b, o, v', k1, k2, k3⟩ := r_load hT hR ht hv (evT hA c)
      obtain ⟨xs, ys, h1, h2, h3⟩ := ih h
      refine ⟨_ :: xs, _ :: ys, h1, ?_, VRs.cons k3 h3⟩
      have ka : (asAddr (a.tmps.getD c undef)).run P w = .ok ⟨b, o, none⟩ w := by rw [k1]; rfl
      simp only [List.mapM_cons, resS, Sem.run_bind, Sem.run_pure, Result.andThen_ok, h2, ka, k2]

theorem tupA_VR {xs : List AV} {ys : List Value} (h : VRs G xs ys) : VR G (tupA xs) (if h : ys.toArray.size = 1 then ys.toArray[0] else .tuple ys.toArray) := by
  cases xs with
  | nil =>
    have : ys = [] := List.eq_nil_of_length_eq_zero (by rw [← h.len]; rfl)
    subst this
    exact undef_VR G
  | cons x xs =>
    obtain ⟨y, ys, rfl, h1, h2⟩ := h.head
    cases xs with
    | nil =>
      have : ys = [] := List.eq_nil_of_length_eq_zero (by rw [← h2.len]; rfl)
      subst this
      exact h1
    | cons x' xs =>
      obtain ⟨y', ys, rfl, _, _⟩ := h2.head
      exact VRs.tup (vs := (y :: y' :: ys).toArray) (by simpa using h)

/-! ### Loops over functions -/
theorem rel_setobj' {own : Nat → Option Nat} (hR : RelO A.bld A.u8 w0 G own st w) {i b : Nat} {ob0 ob : Ob} (hi : st[i]? = some ob0) (hv : ob0.ver ≤ ob.ver) (hown : own b = some i) {o0 o : Obj} (hb : w.heap[b]? = some o0) (hnc : ∀ arr t fr, o0 ≠ .cells arr t fr)
    (hob : ∀ w' : World, w'.heap[b]? = some o → (∀ k, k ≠ b → w'.heap[k]? = w.heap[k]?) → ObR A.bld A.u8 G own w' i ob) : RelO A.bld A.u8 w0 G own (st.set i ob) { w with heap := w.heap.setIfInBounds b o } := by
  have hlt : b < w.heap.size := (hR.ownlt b i hown).2
  have hb' : ({ w with heap := w.heap.setIfInBounds b o } : World).heap[b]? = some o := by simp [hlt]
  have hne : ∀ k, k ≠ b → ({ w with heap := w.heap.setIfInBounds b o } : World).heap[k]? = w.heap[k]? := fun k hk => by simp [Array.getElem?_setIfInBounds_ne (Ne.symm hk)]
  refine hR.upd (S := fun k => k = b) i ob rfl rfl rfl (by simp) hne (fun k hk => ?_) (Gh.le.refl G) (fun _ _ => rfl) (fun k l hk hl => ?_) (fun k n hn => .inl ⟨fun e => ?_, hn⟩) (.inl ⟨rfl, ob0, hi, hv⟩) (fun k => .inl rfl) (fun j g x hx => .inl hx) (hob _ hb' hne)
  · subst hk; exact ⟨(hR.ownlt _ _ hown).1, .inr hown⟩
  · subst hk
    obtain ⟨arr, t, fr, m, h1, _⟩ := hR.prot k l hl
    rw [hb] at h1
    cases h1
    exact absurd rfl (hnc _ _ _)
  · subst e
    obtain ⟨arr, t, fr, h1, _⟩ := hR.size k n hn
    rw [hb] at h1
    cases h1
    exact hnc _ _ _ rfl

/-- The record of a loop, as it lies in memory. -/
def ALoop.obj (l : ALoop) (tmps : Array Value) (r : Nat) : Loop := { state := l.state, pending := l.pending, fn := l.fn, tmps := tmps, params := l.params.toArray, assign := l.assign, body := l.body, defers := r }

theorem loop_at {own : Nat → Option Nat} (hR : RelO A.bld A.u8 w0 G own st w) {id : Nat} {l : ALoop} (h : st[id]? = some (.loop l)) {b : Nat} (hb : G.ρ id 0 = some (b, 0)) :
    ∃ r tmps, w.heap[b]? = some (.loop (l.obj tmps r)) ∧ VRs G l.env tmps.toList ∧ G.ρ id 1 = some (r, 0) ∧ own r = some id ∧ w.heap[r]? = some (.deferred (some [])) ∧
      ∀ (s : LoopState) (p : Option Code), Rel A.bld A.u8 w0 G (st.set id (.loop { l with state := s, pending := p })) { w with heap := w.heap.setIfInBounds b (.loop (({ l with state := s, pending := p } : ALoop).obj tmps r)) } := by
  obtain ⟨b', r, tmps, h1, h2, h3, h4, h5, h6, h7, h8⟩ := hR.obj id _ h
  rw [hb] at h1
  cases h1
  refine ⟨r, tmps, h6, h7, h2, h4, h8, fun s p => ⟨own, rel_setobj' hR h (ob := .loop { l with state := s, pending := p }) (Nat.le_refl 1) h3 h6 (fun _ _ _ e => by cases e) fun w' e1 e2 => ?_⟩⟩
  exact ⟨b, r, tmps, hb, h2, h3, h4, h5, e1, h7, (e2 r (Ne.symm h5)).trans h8⟩

theorem loop_dead {own : Nat → Option Nat} (hR : RelO A.bld A.u8 w0 G own st w) {id r : Nat} {l : ALoop} (h : st[id]? = some (.loop l)) (hr : G.ρ id 1 = some (r, 0)) :
    ∃ w', (Instr.takeDeferred r).run P w = .ok [] w' ∧ RelO A.bld A.u8 w0 G own (st.set id .dead) w' := by
  obtain ⟨b, r', tmps, h1, h2, h3, h4, h5, h6, h7, h8⟩ := hR.obj id _ h
  rw [hr] at h2
  cases h2
  refine ⟨{ w with heap := w.heap.setIfInBounds r (.deferred none) }, ?_, rel_setobj' hR h (ob := .dead) (Nat.le_refl 1) h4 h8 (fun _ _ _ e => by cases e) fun w' _ _ => trivial⟩
  simp [Instr.takeDeferred, getObj, setObj, Sem.run, h8]

/-- A loop's record is laid. -/
theorem rel_newloop (hR : Rel A.bld A.u8 w0 G st w) {l : ALoop} {tmps : Array Value} (hv : VRs G l.env tmps.toList) :
    ∃ G', G.le G' ∧ G'.ρ st.length 0 = some (w.heap.size + 1, 0) ∧ G'.ρ st.length 1 = some (w.heap.size, 0) ∧
      Rel A.bld A.u8 w0 G' (st ++ [.loop l]) ((w.alloc (.deferred (some []))).alloc (.loop (l.obj tmps w.heap.size))) := by
  obtain ⟨own, hR⟩ := hR
  obtain ⟨n, hn⟩ : ∃ n, n = w.heap.size := ⟨_, rfl⟩
  have hHlt : ∀ b l, G.H b = some l → b < n := fun b l hb => by
    obtain ⟨_, _, _, _, hh, _⟩ := hR.prot b l hb
    rw [hn]; exact (Array.getElem?_eq_some_iff.1 hh).1
  have hZlt : ∀ b l, G.Z b = some l → b < n := fun b l hb => by
    obtain ⟨_, _, _, hh, _⟩ := hR.size b l hb
    rw [hn]; exact (Array.getElem?_eq_some_iff.1 hh).1
  have hdom : ∀ i g x, G.ρ i g = some x → i < st.length := fun i g x hx => by
    obtain ⟨ob, ho, _⟩ := hR.dom i g x hx
    exact (List.getElem?_eq_some_iff.1 ho).1
  have hown : ∀ b i, own b = some i → b < n := fun b i hb => by rw [hn]; exact (hR.ownlt b i hb).2
  have hlow : w0.heap.size ≤ n := by rw [hn]; exact hR.below.size
  obtain ⟨G', hG'⟩ : ∃ G' : Gh, G' = { ρ := fun i g => if i = st.length then (if g = 0 then some (n + 1, 0) else if g = 1 then some (n, 0) else none) else G.ρ i g, H := G.H, Z := G.Z } := ⟨_, rfl⟩
  have hle : G.le G' := by
    subst hG'
    refine ⟨fun i g x hx => ?_, fun b l hb => ⟨[], by simpa using hb⟩, fun b n hb => hb⟩
    have := hdom i g x hx
    simp only
    rw [if_neg (by omega)]
    exact hx
  have h0 : G'.ρ st.length 0 = some (n + 1, 0) := by subst hG'; simp
  have h1 : G'.ρ st.length 1 = some (n, 0) := by subst hG'; simp
  have hH : G'.H = G.H := by subst hG'; rfl
  have hZ : G'.Z = G.Z := by subst hG'; rfl
  obtain ⟨w', hw'⟩ : ∃ w' : World, w' = (w.alloc (.deferred (some []))).alloc (.loop (l.obj tmps n)) := ⟨_, rfl⟩
  have hheap : w'.heap = (w.heap.push (.deferred (some []))).push (.loop (l.obj tmps n)) := by subst hw'; rfl
  have hsz : w'.heap.size = n + 2 := by rw [hheap]; simp [hn]
  have hat0 : w'.heap[n]? = some (.deferred (some [])) := by rw [hheap, Array.getElem?_push, if_neg (by simp [hn]), Array.getElem?_push, if_pos hn]
  have hat1 : w'.heap[n + 1]? = some (.loop (l.obj tmps n)) := by rw [hheap, Array.getElem?_push, if_pos (by simp [hn])]
  refine ⟨G', hle, by rw [← hn]; exact h0, by rw [← hn]; exact h1, fun k => if k = n ∨ k = n + 1 then some st.length else own k, ?_⟩
  rw [← hn, ← hw']
  refine hR.upd (S := fun k => k = n ∨ k = n + 1) st.length (.loop l) (by subst hw'; rfl) (by subst hw'; rfl) (by subst hw'; rfl) (by rw [hsz, hn]; omega) (fun k hk => ?_) (fun k hk => ?_) hle (fun k _ => by rw [hH]) (fun k l hk hl => ?_) (fun k m hm => ?_) (.inr ⟨rfl, rfl⟩) (fun k => ?_) (fun j g x hx => ?_) ?_
  · rw [hheap, Array.getElem?_push, if_neg (by simp only [Array.size_push]; rw [← hn]; omega), Array.getElem?_push, if_neg (by rw [← hn]; omega)]
  · refine ⟨by omega, .inl ?_⟩
    cases ho : own k with
    | none => rfl
    | some i => have := hown k i ho; omega
  · rw [hH] at hl
    have := hHlt k l hl
    omega
  · rw [hZ] at hm
    have := hZlt k m hm
    exact .inl ⟨by omega, hm⟩
  · by_cases hk : k = n ∨ k = n + 1
    · exact .inr ⟨hk, .inl (by simp [hk]), by omega⟩
    · exact .inl (by simp [hk])
  · subst hG'
    simp only at hx
    split at hx
    · rename_i hj
      refine .inr ⟨hj, ?_⟩
      show g ≤ 1
      split at hx
      · omega
      · split at hx
        · omega
        · cases hx
    · exact .inl hx
  · exact ⟨n + 1, n, tmps, h0, h1, by simp, by simp, by omega, hat1, hv.mono hle, hat0⟩

theorem run_enterLoop {fn : FuncId} {tmps : Array Value} {ps : Array Tmp} {assign body : Code} :
    (Instr.enterLoop fn tmps ps assign body none).run P w = .ok (w.heap.size + 1, [{ target := .collected w.heap.size, args := #[] }]) ((w.alloc (.deferred (some []))).alloc (.loop { state := .ready, pending := none, fn, tmps, params := ps, assign, body, defers := w.heap.size })) := by
  have h : (w.alloc (.deferred (some []))).heap.size = w.heap.size + 1 := by show (w.heap.push _).size = _; simp
  rw [← h]
  rfl

theorem setAll_VRs : ∀ {env : List AV} {tmps : List Value} {ps : List Tmp} {args : List AV} {vs : List Value}, VRs G env tmps → VRs G args vs →
    VRs G (setAll env ps args) ((ps.zip vs).foldl (fun t (p, v) => t.set p v) tmps) := by
  intro env tmps ps
  induction ps generalizing env tmps with
  | nil => intro args vs h _; simpa [setAll] using h
  | cons p ps ih =>
    intro args vs h hv
    cases args with
    | nil =>
      have : vs = [] := List.eq_nil_of_length_eq_zero (by rw [← hv.len]; rfl)
      subst this
      simpa [setAll] using h
    | cons x xs =>
      obtain ⟨v, vs, rfl, h1, h2⟩ := hv.head
      simp only [setAll, List.zip_cons_cons, List.foldl_cons]
      exact ih (h.set p h1) h2

theorem setAll_toList : ∀ {ps : List Tmp} {vs : List Value} {tmps : Array Value},
    ((ps.zip vs).foldl (fun (t : Array Value) (p, v) => t.setIfInBounds p v) tmps).toList = (ps.zip vs).foldl (fun t (p, v) => t.set p v) tmps.toList := by
  intro ps
  induction ps with
  | nil => intro vs tmps; rfl
  | cons p ps ih =>
    intro vs tmps
    cases vs with
    | nil => rfl
    | cons v vs =>
      simp only [List.zip_cons_cons, List.foldl_cons]
      rw [ih]
      simp

/-! ### A frame's end -/
/-- Of a function, or of a round: a round goes back to its caller. -/
def Ends (P : Program) (A : AProg) (w0 : World) (G0 : Gh) (r : Res) (m : Machine) (f : FuncId) (cs : List Frame) : Option Nat → Prop
  | none => ∃ e w' fr, RetOK A w0 G0 r.out r.st e w' ∧ Steps P m (lone fr cs w') ∧ fr.fn = f ∧ fr.leaving P w' e
  | some _ => ∀ c0 cs', cs = c0 :: cs' → ∃ v w', RetOK A w0 G0 r.out r.st (.returned v) w' ∧ Steps P m (lone (c0.finish v) cs' w')

theorem Ends.of_steps {G0 : Gh} {r : Res} {m m' : Machine} {f : FuncId} {cs : List Frame} {rd : Option Nat} (h : Steps P m m') (h' : Ends P A w0 G0 r m' f cs rd) : Ends P A w0 G0 r m f cs rd := by
  cases rd with
  | none =>
    obtain ⟨e, w', fr, h1, h2, h3⟩ := h'
    exact ⟨e, w', fr, h1, h.trans h2, h3⟩
  | some id =>
    intro c0 cs' hc
    obtain ⟨v, w', h1, h2⟩ := h' c0 cs' hc
    exact ⟨v, w', h1, h.trans h2⟩

theorem marks_sound : ∀ {l : List ADef} {st st' : Sto} {w : World} {own : Nat → Option Nat}, endMarks l st = some st' → RelO A.bld A.u8 w0 G own st w → ∀ {fr : Frame} {cs : List Frame}, DfrR G l fr.defers → fr.mode = .returning →
    ∃ w', RelO A.bld A.u8 w0 G own st' w' ∧ Steps P (lone fr cs w) (lone { fr with defers := [] } cs w') := by
  intro l
  induction l with
  | nil =>
    intro st st' w own h hR fr cs hd hm
    cases h
    refine ⟨w, hR, ?_⟩
    have := hd.none
    have e : ({ fr with defers := [] } : Frame) = fr := by cases fr; simp at this; subst this; rfl
    rw [e]
    exact Steps.refl _ _
  | cons d l ih =>
    intro st st' w own h hR fr cs hd hm
    generalize hds : fr.defers = ds at hd
    cases hd with
    | mark h1 hd =>
      simp only [endMarks] at h
      split at h
      · rename_i lp hlp
        obtain ⟨w', k1, k2⟩ := loop_dead (P := P) hR hlp h1
        have hs := step_collected (cs := cs) hm hds k1
        obtain ⟨w'', m1, m2⟩ := ih h k2 (fr := { fr with defers := _ }) (cs := cs) hd hm
        exact ⟨w'', m1, .head hs m2⟩
      · cases h

theorem finA_sound (hS : Sound P A w0) {G0 : Gh} {c : Cfg} {r : Res} (h : finA A c = some r) (hG : G0.le G) (hR : Rel A.bld A.u8 w0 G c.st w) {a : Act} (hA : ActR G c.env c.dfr a) {b : Frame} (hb : b.fn = c.f) (hk : b.kind = .normal) (todo : List Item) (cs : List Frame) :
    Ends P A w0 G0 r (lone { b.atR a todo with mode := .returning } cs w) c.f cs none := by
  unfold finA at h
  obtain ⟨st', hm, h⟩ := bind_some h
  obtain ⟨own, hRo⟩ := hR
  obtain ⟨w', k1, k2⟩ := marks_sound (P := P) hm hRo (fr := { b.atR a todo with mode := .returning }) (cs := cs) hA.dfr rfl
  obtain ⟨fn, hfn, h⟩ := bind_some h
  obtain ⟨xs, ys, h1, h2, h3⟩ := resA_sound hS.tab ⟨own, k1⟩ hA h
  cases h1
  refine ⟨.returned _, w', _, ⟨G, hG, ⟨own, k1⟩, _, rfl, tupA_VR h3⟩, k2, hb, rfl, rfl, hk, fn, ?_, ?_⟩
  · show P.funcs[b.fn]? = some fn
    rw [hb]
    exact (hS.fns _ _ hfn).1
  · show (results fn a.tmps).run P w' = _
    rw [results_eq, Array.mapM_eq_mapM_toList]
    simp only [Sem.run_bind, Sem.run_map, h2, Result.andThen_ok, Sem.run_pure]

theorem panA_sound {G0 : Gh} {c : Cfg} {x : AV} {s : Sto} {r : Res} (h : panA c x s = some r) {v : Value} (hG : G0.le G) (hR : Rel A.bld A.u8 w0 G s w) (hx : VR G x v) : c.dfr = [] ∧ c.rd = none ∧ RetOK A w0 G0 r.out r.st (.panicked [{ v, recovered := false }]) w := by
  unfold panA at h
  split at h
  · rename_i h1 h2
    cases h
    exact ⟨h1, h2, G, hG, hR, x, v, rfl, rfl, hx⟩
  · cases h

theorem steps_behind {m x m' : Machine} (h : step P m = .next x) (hs : Steps P m m') (hne : m ≠ m') : Steps P x m' := by
  obtain ⟨n, hn⟩ := hs
  cases n with
  | zero => exact absurd (by simpa [runN] using hn) hne
  | succ n => exact ⟨n, by simpa [runN, h] using hn⟩

/-- A frame's round is the one that is told. -/
def RdR (G : Gh) : Option Nat → Option Nat → Prop
  | none, none => True
  | some id, some l => G.ρ id 0 = some (l, 0)
  | _, _ => False
theorem RdR.mono {G G' : Gh} (h : G.le G') {rd ro : Option Nat} (k : RdR G rd ro) : RdR G' rd ro := by
  cases rd <;> cases ro <;> simp only [RdR] at k ⊢
  exact h.ρ _ _ _ k

/-- A region behind which the run goes on. -/
theorem region_ends {G0 G : Gh} (hG : G0.le G) {c : Cfg} {r : Res} {K : Kont} {t : List AItem} {env0 : List AV} {b : Frame} {cs : List Frame} {fn : Func} (hf : P.funcs[c.f]? = some fn) (hb : b.fn = c.f)
    (hK : ∀ env st G' a w, K { c with todo := t, env := env, st := st } = some r → G.le G' → Rel A.bld A.u8 w0 G' st w → ActR G' env c.dfr a → Ends P A w0 G0 r (lone (b.atR a (t.map AItem.item)) cs w) c.f cs c.rd)
    {code : Code} {a : Act} (h : code.wpIn (WF b.roundOf) 0 P (RQ A w0 G c.dfr (fun env' st' => K { c with todo := t, env := env', st := st' }) (panA { c with env := env0 }) r) a w) :
    Ends P A w0 G0 r (lone (b.atR a (.code code :: t.map AItem.item)) cs w) c.f cs c.rd := by
  obtain ⟨e, a', w', hq, harr⟩ := h b (t.map AItem.item) cs rfl trivial (WF.room _ _)
  cases e with
  | normal =>
    obtain ⟨env, st, G', h1, h2, h3, h4⟩ := hq
    exact (hK env st G' a' w' h4 h1 h2 h3).of_steps (WF.steps.1 harr)
  | panic ch =>
    obtain ⟨x, v, st, G', rfl, h1, h2, h3, h4, h5⟩ := hq
    obtain ⟨todo, hs⟩ := harr
    obtain ⟨k1, k2, k3⟩ := panA_sound h5 (hG.trans h1) h2 h3
    simp only at k1 k2
    rw [k1] at h4
    rw [k2]
    exact ⟨.panicked _, w', _, k3, WF.steps.1 hs, hb, rfl, h4.none, fn, by show P.funcs[b.fn]? = some fn; rw [hb]; exact hf⟩
  | exit id => exact hq.elim
  | goto l => exact hq.elim
  | ret => exact hq.elim
  | outgrown => exact hq.elim

def RunOk (P : Program) (A : AProg) (w0 : World) (K : Kont) : Prop := ∀ (c : Cfg) (r : Res), K c = some r → ∀ (G0 G : Gh) (a : Act) (w : World) (b : Frame) (cs : List Frame) (fn : Func), GlobsR A G0 → G0.le G → Rel A.bld A.u8 w0 G c.st w → ActR G c.env c.dfr a → (c.rd ≠ none → c.dfr = []) →
  P.funcs[c.f]? = some fn → b.fn = c.f → b.kind = .normal → RdR G c.rd b.roundOf → Ends P A w0 G0 r (lone (b.atR a (c.todo.map AItem.item)) cs w) c.f cs c.rd

theorem rEnd_sound {G0 : Gh} {id l : Nat} {jump : Option Code} {r : Res} (h : rEnd st id jump = some r) (hG : G0.le G) (hR : Rel A.bld A.u8 w0 G st w) (hl : G.ρ id 0 = some (l, 0)) :
    ∃ v w', (Instr.endRound l jump).run P w = .ok v w' ∧ RetOK A w0 G0 r.out r.st (.returned v) w' := by
  unfold rEnd at h
  split at h
  · rename_i lp hlp
    obtain ⟨own, hRo⟩ := hR
    obtain ⟨rr, tmps, h1, h2, h3, h4, h5, h6⟩ := loop_at hRo hlp hl
    cases h
    have k := h6 (if jump.isNone = true then .ready else .done) jump
    refine ⟨.bool jump.isNone, _, ?_, G, hG, k, _, rfl, .bool _⟩
    simp [Instr.endRound, Instr.getLoop, getObj, setObj, Sem.run, h1, ALoop.obj]
  · cases h

theorem rangeA_some {C : Call} {f : AV} {args : List AV} {st : Sto} {r : Out × Sto} (h : rangeA A C f args st = some r) : ∃ g first cap, f = .fn (.func g) first cap ∧ g ≠ rnd ∧ C g (first ++ args ++ cap) st = some r := by
  unfold rangeA at h
  split at h
  · rename_i g first cap
    refine ⟨g, first, cap, rfl, ?_⟩
    cases hp : assoc g A.prims with
    | some p => rw [hp] at h; cases h
    | none =>
      rw [hp] at h
      cases hb : Nat.beq g rnd with
      | true => simp only [hb] at h; cases h
      | false =>
        simp only [hb] at h
        exact ⟨fun e => (by rw [e] at hb; simp [rnd] at hb), h⟩
  · cases h

theorem stepF_sound (hS : Sound P A w0) {C : Call} (hC : CallOk P A w0 C) (hI : CallIn A C) {K : Kont} (hK : RunOk P A w0 K) : RunOk P A w0 (stepF A C K) := by
  intro c r h G0 G a w b cs fn hGl hG hR hA hd hf hb hk hrd
  have fin : ∀ {c' : Cfg} {todo : List Item} {a' : Act} {G' : Gh} {w' : World} {m : Machine}, c'.f = c.f → c.rd = none → G0.le G' → Rel A.bld A.u8 w0 G' c'.st w' → ActR G' c'.env c'.dfr a' → finA A c' = some r → Steps P m (lone { b.atR a' todo with mode := .returning } cs w') → Ends P A w0 G0 r m c.f cs c.rd := by
    intro c' todo a' G' w' m e1 e0 eG eR e3 e4 e5
    have := finA_sound hS e4 eG eR e3 (hb.trans e1.symm) hk todo cs
    rw [e0]
    rw [e1] at this
    exact this.of_steps e5
  have go : ∀ {t : List AItem} {env : List AV} {m : Machine}, K { c with todo := t, env := env } = some r → ActR G env c.dfr a → Steps P m (lone (b.atR a (t.map AItem.item)) cs w) → Ends P A w0 G0 r m c.f cs c.rd := by
    intro t env m e1 e2 e3
    exact (hK _ _ e1 G0 G a w b cs fn hGl hG hR e2 hd hf hb hk hrd).of_steps e3
  have none_of : c.rd = none → b.roundOf = none := by
    intro e
    rw [e] at hrd
    cases hro : b.roundOf with
    | none => rfl
    | some l => rw [hro] at hrd; exact hrd.elim
  have some_of : ∀ {id}, c.rd = some id → ∃ l, b.roundOf = some l ∧ G.ρ id 0 = some (l, 0) := by
    intro id e
    rw [e] at hrd
    cases hro : b.roundOf with
    | none => rw [hro] at hrd; exact hrd.elim
    | some l => rw [hro] at hrd; exact ⟨l, rfl, hrd⟩
  unfold stepF at h
  split at h
  · rename_i ht
    rw [ht]
    split at h
    · rename_i hr0
      exact fin rfl hr0 hG hR hA h (.one (stepR_end (none_of hr0)))
    · rename_i id hr0
      obtain ⟨l, h1, h2⟩ := some_of hr0
      obtain ⟨v, w', k1, k2⟩ := rEnd_sound (P := P) h hG hR h2
      rw [hr0]
      rintro c0 cs' rfl
      exact ⟨v, w', k2, .one (stepR_round_end h1 hk k1)⟩
  · rename_i t ht
    obtain ⟨id, hr0, h⟩ := bind_some h
    obtain ⟨st', hbg, h⟩ := bind_some h
    obtain ⟨l, h1, h2⟩ := some_of hr0
    unfold rBeg at hbg
    split at hbg
    · rename_i lp hlp
      split at hbg
      · rename_i hst
        obtain ⟨own, hRo⟩ := hR
        obtain ⟨rr, tmps, m1, m2, m3, m4, m5, m6⟩ := loop_at hRo hlp h2
        have hR' := m6 .busy lp.pending
        cases hbg
        rw [ht]
        have hrun : (Instr.beginRound l).run P w = .ok () { w with heap := w.heap.setIfInBounds l (.loop (({ lp with state := .busy, pending := lp.pending } : ALoop).obj tmps rr)) } := by
          simp [Instr.beginRound, Instr.getLoop, getObj, setObj, Sem.run, m1, ALoop.obj, hst]
        exact (hK _ _ h G0 G a _ b cs fn hGl hG hR' hA hd hf hb hk hrd).of_steps (.one (stepR_beginRound h1 hrun))
      · cases hbg
    · cases hbg
  · rename_i ht
    rw [ht]
    exact go (env := c.env) h hA (.one stepR_inBlock)
  · rename_i ht
    rw [ht]
    exact go (env := c.env) h hA (.one stepR_inScope)
  · rename_i p body t ht
    rw [ht]
    exact go (env := c.env) h hA (.one stepR_inLoop)
  · rename_i p code t ht
    rw [ht]
    have hA' : ActR G ((A.note c.f).keepAt p c.env) c.dfr a := keepAt_R hA
    simp only [List.map_cons, AItem.item]
    cases code with
    | skip => exact go h hA' (.one stepR_skip)
    | label l => exact go h hA' (.one stepR_label)
    | ret =>
      simp only at h
      split at h
      · rename_i hr0
        exact fin (c' := { c with env := (A.note c.f).keepAt p c.env }) rfl hr0 hG hR hA' h (.one (stepR_ret (none_of hr0)))
      · rename_i id hr0
        obtain ⟨l, h1, h2⟩ := some_of hr0
        obtain ⟨v, w', k1, k2⟩ := rEnd_sound (P := P) h hG hR h2
        rw [hr0]
        rintro c0 cs' rfl
        exact ⟨v, w', k2, .one (stepR_round_ret h1 hk k1)⟩
    | seq x y => exact go h hA' (.one stepR_seq)
    | cond x u v =>
      obtain ⟨q, hq, h⟩ := bind_some h
      have hx := evA_VR hA' (hGl.mono hG) x
      rw [asB_some hq] at hx
      have hs := stepR_cond (P := P) (b := b) (a := a) (k := t.map AItem.item) (cs := cs) (w := w) (c := x) (x := u) (y := v) hx.bool_inv
      cases q
      · exact go h hA' (.one hs)
      · exact go h hA' (.one hs)
    | block id body => exact go h hA' (.one stepR_block)
    | loop body => exact go h hA' (.one stepR_loop)
    | scope body => exact go h hA' (.one stepR_scope)
    | exit id =>
      rcases exitK_item h with ⟨t', ht', h⟩ | ⟨ht', h⟩
      · exact go h hA' (.one (stepR_exit ht'))
      · split at h
        · cases h
        · rename_i l0 hr0
          obtain ⟨l, h1, h2⟩ := some_of hr0
          obtain ⟨v, w', k1, k2⟩ := rEnd_sound (P := P) h hG hR h2
          rw [hr0]
          rintro c0 cs' rfl
          exact ⟨v, w', k2, .one (stepR_round_exit h1 hk ht' k1)⟩
    | goto l =>
      obtain ⟨t', ht', h⟩ := bind_some h
      exact go h hA' (.one (stepR_goto (gotoA_item ht')))
    | region rid ops draw =>
      cases draw with
      | false =>
        refine region_ends (env0 := c.env) (K := K) hG hf hb (fun env st G' a' w' k1 k2 k3 k4 => hK _ _ k1 G0 G' a' w' b cs fn hGl (hG.trans k2) k3 k4 hd hf hb hk (hrd.mono k2)) (wpIn_region ?_)
        have := runOps_sound hS hC hI (hGl.mono hG) b.roundOf c.dfr ops.toList 0 rfl _ _ G a w (Gh.le.refl G) hR hA' h
        rw [List.range_eq_range']
        simpa using this
      | true =>
        simp only [cond_true] at h
        cases hdr : A.draws with
        | false => simp [hdr] at h
        | true =>
          simp only [hdr, cond_true] at h
          refine region_ends (env0 := c.env) (K := K) hG hf hb (fun env st G' a' w' k1 k2 k3 k4 => hK _ _ k1 G0 G' a' w' b cs fn hGl (hG.trans k2) k3 k4 hd hf hb hk (hrd.mono k2)) (wpIn_region_any (hS.mixed hdr) ?_)
          exact drawLaw hS b.roundOf C _ rid ops _ _ r G G _ _ _ a w hC hI (hGl.mono hG) (Gh.le.refl G) hR hA' h
    | rangeFunc g ps x y =>
      simp only at h
      split at h
      · cases h
      · rename_i hr0
        obtain ⟨⟨o, st1⟩, hcall, h⟩ := bind_some h
        cases o with
        | pan v => simp only [Out.on] at h; cases h
        | ret v =>
          simp only [Out.on] at h
          obtain ⟨⟨jump, st2⟩, hend, h⟩ := bind_some h
          simp only at h
          obtain ⟨gf, first, cap, hev, hne, hcl⟩ := rangeA_some hcall
          have hro := none_of hr0
          have hg := evA_VR hA' (hGl.mono hG) g
          rw [hev] at hg
          obtain ⟨gv, hgv⟩ : ∃ gv, gv = a.eval g := ⟨_, rfl⟩
          rw [← hgv] at hg
          obtain ⟨us, ys, rfl⟩ : ∃ us ys, gv = .func (.func gf) us ys := by cases hg; exact ⟨_, _, rfl⟩
          obtain ⟨v1, v2⟩ := fn_VRs hg
          obtain ⟨lp, hlp⟩ : ∃ lp : ALoop, lp = { state := .ready, pending := none, fn := c.f, env := (A.note c.f).keepAt p c.env, params := ps.toList, assign := x, body := y, path := p } := ⟨_, rfl⟩
          rw [← hlp] at hcl
          obtain ⟨G1, e1, e2, e3, e4⟩ := rel_newloop hR (l := lp) (tmps := a.tmps) (by rw [hlp]; exact hA'.vals)
          obtain ⟨w1, hw1⟩ : ∃ w1, w1 = ((w.alloc (.deferred (some []))).alloc (.loop (lp.obj a.tmps w.heap.size))) := ⟨_, rfl⟩
          rw [← hw1] at e4
          have henter : (Instr.enterLoop b.fn a.tmps ps x y b.roundOf).run P w = .ok (w.heap.size + 1, [{ target := .collected w.heap.size, args := #[] }]) w1 := by
            rw [hro, run_enterLoop, hw1, hlp, hb]
            rfl
          have hargs : VRs G1 (first ++ [.yl c.st.length] ++ cap) (us ++ #[Value.func (.yield (w.heap.size + 1)) #[] #[]] ++ ys).toList := by
            have h1 : VRs G1 [AV.yl c.st.length] [.func (.yield (w.heap.size + 1)) #[] #[]] := VRs.one (.yl _ _ e2)
            simpa using ((v1.mono e1).append h1).append (v2.mono e1)
          obtain ⟨fn', hfn', hbody⟩ := hI _ _ _ _ hcl hne
          obtain ⟨hp1, hp2⟩ := hS.fns gf fn' hfn'
          obtain ⟨cbody, hcb⟩ := Option.isSome_iff_exists.1 hbody
          have hres : (resolve a.eval (rangeCall g (w.heap.size + 1)) 0).run P w1 = .ok { target := .fn (.func gf) ys, args := us ++ #[Value.func (.yield (w.heap.size + 1)) #[] #[]] } w1 := by
            have hc : ∀ v, a.eval (.const v) = v := fun v => rfl
            simp [resolve, rangeCall, ← hgv, hc, Deferred.ofValue]
          have hinv : (invoke (.fn (.func gf) ys) (us ++ #[Value.func (.yield (w.heap.size + 1)) #[] #[]])).run P w1 = .ok (.enter gf (us ++ #[Value.func (.yield (w.heap.size + 1)) #[] #[]] ++ ys)) w1 := by
            have h1 : fn'.name ≠ "runtime.NumGoroutine" := by simpa using hp2
            simp [invoke, callFunc, hp1, h1, hcb]
          have s1 := stepR_rangeFunc (P := P) (b := b) (a := a) (k := t.map AItem.item) (cs := cs) (w := w) henter hres hinv
          obtain ⟨e, w3, fr, k1, k2, k3, k4⟩ := hC.call gf _ _ _ _ G1 w1 _ hcl hne (hGl.mono (hG.trans e1)) e4 hargs (b.atR { a with defers := [{ target := .collected w.heap.size, args := #[] }] ++ a.defers } (.inRangeFunc (w.heap.size + 1) :: t.map AItem.item) :: cs)
          cases e with
          | outgrown => exact k1.elim
          | panicked ch => obtain ⟨_, _, _, _, _, hx, _⟩ := k1; cases hx
          | returned rv =>
            obtain ⟨G2, m1, m2, xx, _, _⟩ := k1
            unfold lpEnd at hend
            split at hend
            · rename_i lp2 hlp2
              obtain ⟨own, hRo⟩ := m2
              obtain ⟨rr, tmps2, n1, n2, n3, n4, n5, n6⟩ := loop_at hRo hlp2 (m1.ρ _ _ _ e2)
              have hnb : lp2.state ≠ .busy := by
                intro hb'
                rw [hb'] at hend
                cases hend
              have hend' : jump = lp2.pending ∧ st2 = st1.set c.st.length (.loop { lp2 with state := .exhausted }) := by
                cases hs : lp2.state with
                | busy => exact absurd hs hnb
                | _ => rw [hs] at hend; cases hend; exact ⟨rfl, rfl⟩
              obtain ⟨hjp, rfl⟩ := hend'
              have hR2 := n6 .exhausted lp2.pending
              have hrun : (Instr.endLoop (w.heap.size + 1)).run P w3 = .ok jump { w3 with heap := w3.heap.setIfInBounds (w.heap.size + 1) (.loop (({ lp2 with state := .exhausted, pending := lp2.pending } : ALoop).obj tmps2 rr)) } := by
                rw [hjp]
                simp [Instr.endLoop, Instr.getLoop, getObj, setObj, Sem.run, n1, ALoop.obj, hnb]
              have s2 : Steps P (lone (b.atR a (.code (.rangeFunc g ps x y) :: t.map AItem.item)) cs w) (lone (b.atR { a with defers := [{ target := .collected w.heap.size, args := #[] }] ++ a.defers } ((jump.map Item.code).toList ++ t.map AItem.item)) cs
                  { w3 with heap := w3.heap.setIfInBounds (w.heap.size + 1) (.loop (({ lp2 with state := .exhausted, pending := lp2.pending } : ALoop).obj tmps2 rr)) }) := by
                refine .head s1 (Steps.trans k2 (.head (step_leave_returned k4) ?_))
                rw [finish_atR_inRangeFunc]
                exact .one (stepR_endRangeFunc hrun)
              have hA2 : ActR G2 ((A.note c.f).keepAt p c.env) (⟨.yl c.st.length, []⟩ :: c.dfr) { a with defers := [{ target := .collected w.heap.size, args := #[] }] ++ a.defers } :=
                ⟨(hA'.vals.mono e1).mono m1, .mark (m1.ρ _ _ _ e3) ((hA'.dfr.mono e1).mono m1)⟩
              have hG2 := hG.trans (e1.trans m1)
              have hrd2 : RdR G2 c.rd b.roundOf := (hrd.mono e1).mono m1
              have hd2 : c.rd ≠ none → ((⟨.yl c.st.length, []⟩ : ADef) :: c.dfr) = [] := fun e => absurd hr0 e
              cases jump with
              | none =>
                simp only [jOn] at h
                exact (hK _ _ h G0 G2 _ _ b cs fn hGl hG2 hR2 hA2 hd2 hf hb hk hrd2).of_steps s2
              | some code =>
                cases code with
                | ret =>
                  simp only [jOn] at h
                  exact fin (c' := { c with env := (A.note c.f).keepAt p c.env, dfr := ⟨.yl c.st.length, []⟩ :: c.dfr, st := st1.set c.st.length (.loop { lp2 with state := .exhausted }) }) rfl hr0 hG2 hR2 hA2 h (s2.trans (.one (stepR_ret hro)))
                | exit id =>
                  simp only [jOn] at h
                  rcases exitK_item h with ⟨t', ht', h⟩ | ⟨ht', h⟩
                  · exact (hK _ _ h G0 G2 _ _ b cs fn hGl hG2 hR2 hA2 hd2 hf hb hk hrd2).of_steps (s2.trans (.one (stepR_exit ht')))
                  · cases h
                | _ => simp only [jOn] at h; cases h
            · cases hend
    | refuse why => cases h

theorem callIn_callK (A : AProg) (n : Nat) : CallIn A (callK A n) := by
  intro f args st r h hne
  unfold callK at h
  obtain ⟨c, hc, h⟩ := bind_some h
  unfold entry at hc
  have hb : Nat.beq f rnd = false := by
    cases hb : Nat.beq f rnd with
    | true => exact absurd (Nat.eq_of_beq_eq_true hb) hne
    | false => rfl
  rw [hb] at hc
  obtain ⟨fn, hfn, hc⟩ := bind_some hc
  obtain ⟨body, hb, hc⟩ := bind_some hc
  exact ⟨fn, hfn, by simp [hb]⟩

theorem call_sound (hS : Sound P A w0) {n : Nat} (hK : RunOk P A w0 (run A n)) : CallOk P A w0 (callK A n) := by
  refine ⟨fun f args st out st' G w vs h hne hGl hR hv cs => ?_, fun id args st out st' G w lb vs h hGl hR hl hv => ?_⟩
  · unfold callK at h
    obtain ⟨c, hc, h1⟩ := bind_some h
    obtain ⟨r, hr, h2⟩ := bind_some h1
    clear h h1
    unfold entry at hc
    have hbq : Nat.beq f rnd = false := by
      cases hb : Nat.beq f rnd with
      | true => exact absurd (Nat.eq_of_beq_eq_true hb) hne
      | false => rfl
    rw [hbq] at hc
    obtain ⟨fn, hfn, hc1⟩ := bind_some hc
    obtain ⟨body, hbody, hc2⟩ := bind_some hc1
    clear hc hc1
    cases hc2
    obtain ⟨hf, _⟩ := hS.fns f fn hfn
    let b : Frame := { (default : Frame) with fn := f, kind := .normal }
    let a : Act := { tmps := vs ++ Array.replicate (fn.ntmps - vs.size) undef, defers := [] }
    have hlen : args.length = vs.size := by simpa using hv.len
    have hA : ActR G (args ++ List.replicate (fn.ntmps - args.length) (.tup [])) [] a := by
      refine ⟨?_, .nil⟩
      show VRs G _ (vs ++ Array.replicate (fn.ntmps - vs.size) undef).toList
      rw [Array.toList_append, Array.toList_replicate, hlen]
      refine hv.append ⟨by simp, fun j x y hx hy => ?_⟩
      rw [List.getElem?_replicate] at hx hy
      split at hx
      · cases hx
        split at hy
        · cases hy; exact undef_VR G
        · rename_i h1 h2; exact absurd h1 h2
      · cases hx
    have henter : Frame.enter P f vs .normal = b.atR a [.code body] := by simp [Frame.enter, Frame.atR, hf, hbody, b, a]; rfl
    rw [henter]
    obtain ⟨e, w', fr, k1, k2, k3, k4⟩ := hK _ r hr G G a w b cs fn hGl (Gh.le.refl G) hR hA (fun h => absurd rfl h) hf rfl rfl trivial
    have k5 := gcK_sound (m := A.mode f) hR k1
    cases hgc : gcK (A.mode f) st (r.out, r.st) with
    | mk o s =>
      rw [hgc] at h2 k5
      cases h2
      refine ⟨e, w', fr, k5, ?_, k3, k4⟩
      cases e with
      | outgrown => exact k1.elim
      | returned v => exact k2
      | panicked ch => exact k2
  · unfold callK at h
    obtain ⟨c, hc, h1⟩ := bind_some h
    obtain ⟨r, hr, h2⟩ := bind_some h1
    clear h h1
    have hbq : Nat.beq rnd rnd = true := by decide
    unfold entry at hc
    rw [hbq] at hc
    simp only [cond_true, entryR] at hc
    split at hc
    · rename_i lp hlp
      obtain ⟨fn, hfn, hc⟩ := bind_some hc
      obtain ⟨hf, _⟩ := hS.fns lp.fn fn hfn
      cases hln : Nat.beq args.length lp.params.length with
      | false => rw [hln] at hc; cases hc
      | true =>
        rw [hln] at hc
        cases hc
        have hlen := Nat.eq_of_beq_eq_true hln
        have hR0 := hR
        obtain ⟨own, hRo⟩ := hR
        obtain ⟨rr, tmps, n1, n2, n3, n4, n5, n6⟩ := loop_at hRo hlp hl
        have hvl : args.length = vs.size := by simpa using hv.len
        have hsz : vs.size = lp.params.length := by omega
        have hyield : (Instr.yield lb vs).run P w = .ok (.round lb lp.fn ((lp.params.toArray.zip vs).foldl (fun tmps (t, a) => tmps.setIfInBounds t a) tmps) lp.assign lp.body) w := by
          simp [Instr.yield, Instr.getLoop, getObj, Sem.run, n1, ALoop.obj, hsz]
        rw [hyield]
        refine ⟨trivial, fun cfr cs _ => ?_⟩
        let b : Frame := { (default : Frame) with fn := lp.fn, kind := .normal, roundOf := some lb }
        let a : Act := { tmps := (lp.params.toArray.zip vs).foldl (fun tmps (t, a) => tmps.setIfInBounds t a) tmps, defers := [] }
        have hA : ActR G (setAll lp.env lp.params args) [] a := by
          refine ⟨?_, .nil⟩
          show VRs G _ ((lp.params.toArray.zip vs).foldl (fun tmps (t, a) => tmps.setIfInBounds t a) tmps).toList
          rw [← Array.foldl_toList, Array.toList_zip, setAll_toList]
          exact setAll_VRs n2 hv
        have hround : Frame.round lb lp.fn ((lp.params.toArray.zip vs).foldl (fun tmps (t, a) => tmps.setIfInBounds t a) tmps) lp.assign lp.body .normal = b.atR a [.code lp.assign, .beginRound, .code lp.body] := by
          simp [Frame.round, Frame.atR, b, a]
        rw [hround]
        obtain ⟨v, w', k1, k2⟩ := hK _ r hr G G a w b (cfr :: cs) fn hGl (Gh.le.refl G) hR0 hA (fun _ => rfl) hf rfl rfl hl cfr cs rfl
        have k5 := gcK_sound (m := A.mode rnd) hR0 k1
        cases hgc : gcK (A.mode rnd) st (r.out, r.st) with
        | mk o s =>
          rw [hgc] at h2 k5
          cases h2
          exact ⟨.returned v, w', k5, stepsIn_wide.2 k2⟩
    · cases hc

theorem run_sound (hS : Sound P A w0) : ∀ n, RunOk P A w0 (run A n) := by
  intro n
  induction n with
  | zero => intro c r h; cases h
  | succ n ih => exact stepF_sound hS (call_sound hS ih) (callIn_callK A n) ih

/-- What the machine says of a call holds of the program. -/
theorem CallR_sound (hS : Sound P A w0) : CallOk P A w0 (CallR A) := by
  refine ⟨fun f args st out st' G w vs h => ?_, fun id args st out st' G w b vs h => ?_⟩
  · obtain ⟨k, hk⟩ := CallR_callK A h
    exact (call_sound hS (run_sound hS k)).call f args st out st' G w vs hk
  · obtain ⟨k, hk⟩ := CallR_callK A h
    exact (call_sound hS (run_sound hS k)).round id args st out st' G w b vs hk

end

end Go.St
