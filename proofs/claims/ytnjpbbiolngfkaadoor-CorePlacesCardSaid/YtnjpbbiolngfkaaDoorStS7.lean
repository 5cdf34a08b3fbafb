/- What the operations do in memory: new memory, appends. -/
import Derived.Test.YtnjpbbiolngfkaaDoorStS6
namespace Go.St
open Go.RowKit
set_option linter.unusedVariables false
set_option linter.unusedSimpArgs false

section
variable {P : Program} {A : AProg} {w0 : World} {G : Gh} {st st' : Sto} {w : World} {R : Type}

theorem RelO.fresh {T e : TypeId} {own : Nat → Option Nat} (h : RelO T e w0 G own st w) : G.H w.heap.size = none ∧ G.Z w.heap.size = none ∧ own w.heap.size = none := by
  refine ⟨?_, ?_, ?_⟩
  · cases hh : G.H w.heap.size with
    | none => rfl
    | some l => obtain ⟨_, _, _, _, hx, _⟩ := h.prot _ _ hh; have := (Array.getElem?_eq_some_iff.1 hx).1; omega
  · cases hh : G.Z w.heap.size with
    | none => rfl
    | some l => obtain ⟨_, _, _, hx, _⟩ := h.size _ _ hh; have := (Array.getElem?_eq_some_iff.1 hx).1; omega
  · cases hh : own w.heap.size with
    | none => rfl
    | some l => have := (h.ownlt _ _ hh).2; omega

theorem alloc_at (w : World) (o : Obj) : (w.alloc o).heap[w.heap.size]? = some o := by show (w.heap.push _)[w.heap.size]? = _; simp

/-- A new array or variable. -/
theorem rel_newcells (hR : Rel A.bld A.u8 w0 G st w) (arr : Array Value) (t : TypeId) (fr : Nat × Nat) (cs : List AV) (o fz : Nat) (hl : o + cs.length ≤ arr.size) (hv : VRs G cs ((arr.toList.drop o).take cs.length)) (h1 : ∀ v ∈ (arr.toList.drop o).take cs.length, v.oneCell' = true) (hf : free fr (o + fz) arr.size) :
    ∃ G', G.le G' ∧ Rel A.bld A.u8 w0 G' (st ++ [.cells 0 cs fz]) (w.alloc (.cells arr t fr)) ∧ G'.ρ st.length 0 = some (w.heap.size, o) ∧ G'.Z w.heap.size = some arr.size := by
  obtain ⟨own, hR⟩ := hR
  obtain ⟨fH, fZ, fo⟩ := hR.fresh
  have hle : G.le { ρ := fun i g => if i = st.length ∧ g = 0 then some (w.heap.size, o) else G.ρ i g, H := G.H, Z := fun b => if b = w.heap.size then some arr.size else G.Z b } := by
    refine ⟨fun i g x hx => ?_, fun b l hb => ⟨[], by simpa using hb⟩, fun b n hb => ?_⟩
    · obtain ⟨ob, ho, _⟩ := hR.dom i g x hx
      have := (List.getElem?_eq_some_iff.1 ho).1
      simp only
      rw [if_neg (by omega)]
      exact hx
    · simp only
      rw [if_neg (fun e => by subst e; rw [fZ] at hb; cases hb)]
      exact hb
  refine ⟨_, hle, ⟨fun k => if k = w.heap.size then some st.length else own k, hR.new (.cells 0 cs fz) _ _ _ rfl hle (fun _ _ => rfl) (fun l hl => by rw [fH] at hl; cases hl) (fun k n hn => ?_) (fun j g x hx => ?_) ?_⟩, by simp, by simp⟩
  · simp only at hn
    split at hn
    · rename_i hk; cases hn; exact .inr ⟨hk, arr, t, fr, rfl, rfl⟩
    · rename_i hk; exact .inl ⟨hk, hn⟩
  · simp only at hx
    split at hx
    · rename_i hj; exact .inr ⟨hj.1, by simp [Ob.ver, hj.2]⟩
    · exact .inl hx
  · exact ⟨w.heap.size, o, arr, t, fr, by simp, by simp, fH, by simp, alloc_at w _, hl, hv.mono hle, h1, fun _ => hf⟩

/-- A new row, and its tip. -/
theorem rel_newtip (hR : Rel A.bld A.u8 w0 G st w) (l m : List Value) (arr : Array Value) (harr : arr.toList = l ++ m) (t : TypeId) :
    ∃ G', G.le G' ∧ Rel A.bld A.u8 w0 G' (st ++ [.tip 0]) (w.alloc (.cells arr t)) ∧ G'.ρ st.length 0 = some (w.heap.size, l.length) ∧ G'.Z w.heap.size = some arr.size ∧ G'.H w.heap.size = some l := by
  obtain ⟨own, hR⟩ := hR
  obtain ⟨fH, fZ, fo⟩ := hR.fresh
  have hle : G.le { ρ := fun i g => if i = st.length ∧ g = 0 then some (w.heap.size, l.length) else G.ρ i g, H := fun b => if b = w.heap.size then some l else G.H b, Z := fun b => if b = w.heap.size then some arr.size else G.Z b } := by
    refine ⟨fun i g x hx => ?_, fun b l hb => ⟨[], ?_⟩, fun b n hb => ?_⟩
    · obtain ⟨ob, ho, _⟩ := hR.dom i g x hx
      have := (List.getElem?_eq_some_iff.1 ho).1
      simp only
      rw [if_neg (by omega)]
      exact hx
    · simp only [List.append_nil]
      rw [if_neg (fun e => by subst e; rw [fH] at hb; cases hb)]
      exact hb
    · simp only
      rw [if_neg (fun e => by subst e; rw [fZ] at hb; cases hb)]
      exact hb
  refine ⟨_, hle, ⟨fun k => if k = w.heap.size then some st.length else own k, hR.new (.tip 0) _ _ _ rfl hle (fun k hk => by simp [hk]) (fun l' hl' => ?_) (fun k n hn => ?_) (fun j g x hx => ?_) ?_⟩, by simp, by simp, by simp⟩
  · simp only [if_true, Option.some.injEq] at hl'
    subst hl'
    exact ⟨arr, t, (0, 0), m, rfl, harr⟩
  · simp only at hn
    split at hn
    · rename_i hk; cases hn; exact .inr ⟨hk, arr, t, (0, 0), rfl, rfl⟩
    · rename_i hk; exact .inl ⟨hk, hn⟩
  · simp only at hx
    split at hx
    · rename_i hj; exact .inr ⟨hj.1, by simp [Ob.ver, hj.2]⟩
    · exact .inl hx
  · exact ⟨w.heap.size, l, arr, t, (0, 0), by simp, by simp, by simp, by simp, alloc_at w _, fun k _ _ => by omega⟩

/-- A new row that nobody writes. -/
theorem rel_newrow (hR : Rel A.bld A.u8 w0 G st w) (arr : Array Value) (t : TypeId) (fr : Nat × Nat) :
    ∃ G', G.le G' ∧ Rel A.bld A.u8 w0 G' st (w.alloc (.cells arr t fr)) ∧ G'.H w.heap.size = some arr.toList ∧ G'.Z w.heap.size = some arr.size := by
  obtain ⟨own, hR⟩ := hR
  obtain ⟨h1, h2⟩ := hR.newrow arr t fr
  exact ⟨_, h2, ⟨own, h1⟩, by simp, by simp⟩

theorem rel_drawn (hR : Rel A.bld A.u8 w0 G st w) (n : Nat) : Rel A.bld A.u8 w0 G st { w with drawn := n } := let ⟨own, h⟩ := hR; ⟨own, h.drawn n⟩

theorem free0 (o n : Nat) : free (0, 0) o n := fun k _ _ => by omega

theorem zero_cells {te : TD} {z : Value} (hz : zrsB te.zero z.cells.toList = true) (hl : te.zero.length = te.size) (G : Gh) : VRs G te.zero z.cells.toList ∧ z.cells.size = te.size ∧ te.zero.all AV.isCell = true := by
  obtain ⟨h1, h2⟩ := zrsB_VRs hz G
  exact ⟨h1, by rw [← hl, h1.len]; simp, h2⟩

/-! ### Variables -/
theorem g_alloc (hT : TabOk P A) (hR : Rel A.bld A.u8 w0 G st w) {t : TypeId} {td : TD} (ht : assoc t A.tab = some td) (old : Value) : Gives P A w0 G (Instr.alloc t true old) w (.mp st.length 0 0) (st ++ [.cells 0 td.zero 0]) := by
  obtain ⟨i, d, hi, hd, hs, _, hk, z, hz, hzr, _, _, hzl⟩ := (hT t td ht).ok
  obtain ⟨z1, z2, z3⟩ := zero_cells hzr hzl G
  obtain ⟨G', h1, h2, h3, h4⟩ := rel_newcells hR z.cells t (0, 0) td.zero 0 0 (by omega) (by simpa [hzl, z2, List.take_of_length_le] using z1) (fun v hv => z1.cellish z3 v (List.mem_of_mem_take hv)) (free0 _ _)
  refine ⟨.pointer (some ⟨w.heap.size, 0, none⟩), _, G', ?_, h1, h2, .mp _ _ 0 _ _ h3⟩
  simp [Instr.alloc, r_zero hi hz, newVar, newRow]

theorem g_box (hR : Rel A.bld A.u8 w0 G st w) {x : AV} {xv : Value} (hx : VR G x xv) (hc : x.cells.all AV.isCell = true) (t : TypeId) : Gives P A w0 G (Instr.box t xv) w (.mp st.length 0 0) (st ++ [.cells 0 x.cells 0]) := by
  obtain ⟨h1, h2⟩ := hx.cells hc
  have hl : x.cells.length = xv.cells.size := by rw [h1.len]; simp
  obtain ⟨G', k1, k2, k3, k4⟩ := rel_newcells hR xv.cells t (0, 0) x.cells 0 0 (by omega) (by simpa [hl, List.take_of_length_le] using h1) (fun v hv => h2 v (List.mem_of_mem_take hv)) (free0 _ _)
  refine ⟨.pointer (some ⟨w.heap.size, 0, none⟩), _, G', ?_, k1, k2, .mp _ _ 0 _ _ k3⟩
  simp [Instr.box, newVar, newRow]

/-! ### Aggregates -/
theorem foldl_set (off : Nat) : ∀ (vs : List Value) (k : Nat) (arr : Array Value), off + k + vs.length ≤ arr.size →
    ((vs.zipIdx k).foldl (fun cs (x : Value × Nat) => cs.setIfInBounds (off + x.2) x.1) arr).toList = splice arr.toList (off + k) vs := by
  intro vs
  induction vs with
  | nil => intro k arr h; simp [splice]
  | cons v r ih =>
    intro k arr h
    simp only [List.length_cons] at h
    simp only [List.zipIdx_cons, List.foldl_cons]
    rw [ih (k + 1) _ (by simp; omega), Array.toList_setIfInBounds]
    rw [show off + (k + 1) = off + k + 1 by omega, splice_cons _ _ _ _ (by simp; omega)]

theorem fill_sound {place : Nat → Option (Nat × Nat)} : ∀ {parts : List (Nat × AV)} {pv : List (Nat × Value)} {cells cs : List AV} {arr : Array Value}, fillA place cells parts = some cs → VRs G cells arr.toList →
    (parts.length = pv.length ∧ ∀ (j : Nat) (x : Nat × AV) (y : Nat × Value), parts[j]? = some x → pv[j]? = some y → x.1 = y.1 ∧ VR G x.2 y.2) → (∀ v ∈ arr.toList, v.oneCell' = true) → ∃ arr', Instr.fill place arr pv = some arr' ∧ VRs G cs arr'.toList ∧ ∀ v ∈ arr'.toList, v.oneCell' = true := by
  intro parts
  induction parts with
  | nil =>
    intro pv cells cs arr h hv hp h1
    have : pv = [] := List.eq_nil_of_length_eq_zero (by simpa using hp.1.symm)
    subst this
    simp only [fillA, Option.some.injEq] at h
    subst h
    exact ⟨arr, rfl, hv, h1⟩
  | cons x r ih =>
    intro pv cells cs arr h hv hp hall
    cases pv with
    | nil => simp at hp
    | cons y pv =>
      obtain ⟨i, a⟩ := x
      obtain ⟨i', v⟩ := y
      obtain ⟨rfl, hav⟩ := hp.2 0 _ _ rfl rfl
      simp only [fillA] at h
      simp only [Instr.fill]
      cases hpl : place i with
      | none => simp [hpl] at h
      | some os =>
        obtain ⟨off, size⟩ := os
        simp only [hpl] at h ⊢
        split at h
        · rename_i hc
          obtain ⟨h1, h2, h3⟩ := hc
          obtain ⟨hcv, hone⟩ := hav.cells h3
          have hsz : v.cells.size = size := by rw [← h1, hcv.len]; simp
          have hal : arr.size = cells.length := by rw [hv.len]; simp
          have hcond : ((v.cells.size ≠ size) || (off + v.cells.size > arr.size)) = false := by
            simp only [ne_eq, Bool.or_eq_false_iff, decide_eq_false_iff_not]
            exact ⟨by simpa using hsz, by omega⟩
          simp only [hcond, Bool.false_eq_true, if_false]
          have hf : (v.cells.zipIdx.foldl (fun cs (x : Value × Nat) => cs.setIfInBounds (off + x.2) x.1) arr).toList = splice arr.toList off v.cells.toList := by
            rw [← Array.foldl_toList, Array.toList_zipIdx]
            exact foldl_set off v.cells.toList 0 arr (by simp; omega)
          exact ih h (by rw [show (v.cells.zipIdx.foldl (fun cs (x : Value × Nat) => match x with | (c, j) => cs.setIfInBounds (off + j) c) arr).toList = splice arr.toList off v.cells.toList from hf]; exact hv.splice off hcv)
            ⟨by simpa using hp.1, fun j x y hx hy => hp.2 (j + 1) x y (by simpa using hx) (by simpa using hy)⟩
            (by
              rw [show (v.cells.zipIdx.foldl (fun cs (x : Value × Nat) => match x with | (c, j) => cs.setIfInBounds (off + j) c) arr).toList = splice arr.toList off v.cells.toList from hf]
              intro u hu
              unfold splice at hu
              simp only [List.mem_append] at hu
              rcases hu with hu | hu | hu
              · exact hall u (List.mem_of_mem_take hu)
              · exact hone u hu
              · exact hall u (List.mem_of_mem_drop hu))
        · cases h

/-- Parts told and parts laid. -/
def PartsR (G : Gh) (ps : List (Nat × AV)) (pv : List (Nat × Value)) : Prop := ps.length = pv.length ∧ ∀ (j : Nat) (x : Nat × AV) (y : Nat × Value), ps[j]? = some x → pv[j]? = some y → x.1 = y.1 ∧ VR G x.2 y.2

theorem places_sound (hT : TabOk P A) : ∀ {fs : List (Nat × TypeId)} {pl : List (Nat × Nat)} {l : List Field}, placesOf A fs = some pl → fieldsB fs l = true →
    l.mapM (fun f => (P.info? f.type).map fun i => (f.offset, i.size)) = some pl := by
  intro fs
  induction fs with
  | nil =>
    intro pl l h hf
    cases l with
    | nil => simp [placesOf] at h; subst h; rfl
    | cons f l => simp [fieldsB] at hf
  | cons x r ih =>
    intro pl l h hf
    obtain ⟨off, t⟩ := x
    cases l with
    | nil => simp [fieldsB] at hf
    | cons f l =>
      simp only [fieldsB, Bool.and_eq_true, beq_iff_eq] at hf
      simp only [placesOf] at h
      cases ht : assoc t A.tab with
      | none => simp [ht] at h
      | some td =>
        simp only [ht, Option.bind_some] at h
        cases hr : placesOf A r with
        | none => simp [hr] at h
        | some pr =>
          simp only [hr, Option.bind_some, Option.some.injEq] at h
          subst h
          obtain ⟨i, d, hi, hd, hs, _⟩ := (hT t td ht).ok
          rw [List.mapM_cons, ih hr hf.2, ← hf.1.2, ← hf.1.1]
          simp [hi, hs]

theorem g_build (hT : TabOk P A) (hR : Rel A.bld A.u8 w0 G st w) {t : TypeId} {ps : List (Nat × AV)} {pv : Array (Nat × Value)} {v : AV} (h : build A t ps = some v) (hp : PartsR G ps pv.toList) : Gives P A w0 G (Instr.build t pv) w v st := by
  unfold build at h
  cases ht : assoc t A.tab with
  | none => simp [ht] at h
  | some td =>
    simp only [ht, Option.bind_some] at h
    obtain ⟨i, d, hi, hd, hs, _, hk, z, hz, hzr, hag, _, hzl⟩ := (hT t td ht).ok
    obtain ⟨z1, z2, z3⟩ := zero_cells hzr hzl G
    split at h
    · rename_i fs hfs
      rw [hfs] at hk
      obtain ⟨l, rfl, hl⟩ := kk_struct hk
      cases hpl : placesOf A fs with
      | none => simp [hpl] at h
      | some pl =>
        simp only [hpl, Option.bind_some] at h
        unfold aggA at h
        cases hf : fillA (fun i => pl[i]?) td.zero ps with
        | none => simp [hf] at h
        | some cs =>
          simp only [hf, Option.bind_some, Option.some.injEq] at h
          subst h
          obtain ⟨arr, ha, hv, _⟩ := fill_sound hf z1 hp (z1.cellish z3)
          have hpm := places_sound hT hpl hl
          have hb : P.built t pv.toList = some arr := by
            simp only [Program.built, hi, hd, hz, hpm]
            simpa using ha
          exact Gives.same hR (run_build w t pv arr hb) (.agg _ _ (by rw [hv.len]; simp) fun j a v ha hv' => hv.at_ j a v ha (by simpa using hv'))
    · rename_i n e hfs
      rw [hfs] at hk
      obtain rfl := kk_arr hk
      cases hte : assoc e A.tab with
      | none => simp [hte] at h
      | some te =>
        simp only [hte, Option.bind_some] at h
        obtain ⟨i2, d2, hi2, hd2, hs2, _⟩ := (hT e te hte).ok
        unfold aggA at h
        cases hf : fillA (fun i => some (i * te.size, te.size)) td.zero ps with
        | none => simp [hf] at h
        | some cs =>
          simp only [hf, Option.bind_some, Option.some.injEq] at h
          subst h
          obtain ⟨arr, ha, hv, _⟩ := fill_sound hf z1 hp (z1.cellish z3)
          have hb : P.built t pv.toList = some arr := by
            simp only [Program.built, hi, hd, hz, hi2, hs2]
            exact ha
          exact Gives.same hR (run_build w t pv arr hb) (.agg _ _ (by rw [hv.len]; simp) fun j a v ha hv' => hv.at_ j a v ha (by simpa using hv'))
    · cases h

theorem reps_len {α : Type} (n : Nat) (z : List α) : (reps n z).length = n * z.length := by
  induction n with
  | zero => simp [reps]
  | succ n ih => simp [reps, ih, Nat.succ_mul, Nat.add_comm]
theorem reps_get {α : Type} (z : List α) : ∀ (n j : Nat), j < n * z.length → (reps n z)[j]? = z[j % z.length]? := by
  intro n
  induction n with
  | zero => intro j h; simp at h
  | succ n ih =>
    intro j h
    simp only [reps]
    rw [Nat.succ_mul] at h
    by_cases hj : j < z.length
    · rw [List.getElem?_append_left hj, Nat.mod_eq_of_lt hj]
    · rw [List.getElem?_append_right (by omega), ih _ (by omega), ← Nat.mod_eq_sub_mod (by omega)]

theorem reps_all {z : List AV} (h : z.all AV.isCell = true) (n : Nat) : (reps n z).all AV.isCell = true := by
  induction n with
  | zero => rfl
  | succ n ih => simp only [reps, List.all_append, h, ih, Bool.and_self]

/-- A row of zeros. -/
theorem zeros_VRs {zs : List AV} {z : Array Value} (hz : VRs G zs z.toList) (n k : Nat) (hk : k = n * zs.length) : VRs G (reps n zs) ((Array.range k).map (z[· % z.size]!)).toList := by
  have hl : zs.length = z.size := by rw [hz.len]; simp
  refine ⟨by rw [reps_len]; simp [hk], fun j a v ha hv => ?_⟩
  have hj : j < n * zs.length := by rw [← reps_len]; exact (List.getElem?_eq_some_iff.1 ha).1
  rw [reps_get _ _ _ hj] at ha
  have hpos : 0 < zs.length := by
    rcases Nat.eq_zero_or_pos zs.length with h0 | h0
    · rw [h0] at hj; omega
    · exact h0
  have hm : j % zs.length < zs.length := Nat.mod_lt _ hpos
  simp only [Array.toList_map, List.getElem?_map, Array.toList_range, List.getElem?_range (show j < k by omega), Option.map_some, Option.some.injEq] at hv
  subst hv
  refine hz.at_ (j % zs.length) a _ ha ?_
  rw [← hl, Array.getElem?_toList, getElem!_pos z _ (by omega)]
  exact Array.getElem?_eq_getElem (by omega)

theorem g_buildSlice (hT : TabOk P A) (hR : Rel A.bld A.u8 w0 G st w) {wr : Bool} {t : TypeId} {len : Nat} {ps : List (Nat × AV)} {pv : Array (Nat × Value)} {v : AV} (h : buildSlice A wr t len ps st = some (v, st')) (hp : PartsR G ps pv.toList) :
    Gives P A w0 G (Instr.buildSlice t len pv) w v st' := by
  unfold buildSlice at h
  cases ht : assoc t A.tab with
  | none => simp [ht] at h
  | some td =>
    simp only [ht, Option.bind_some] at h
    obtain ⟨i, d, hi, hd, hs, _, hk, _⟩ := (hT t td ht).ok
    split at h
    · rename_i e hfs
      rw [hfs] at hk
      obtain rfl := kk_slice hk
      cases hte : assoc e A.tab with
      | none => simp [hte] at h
      | some te =>
        simp only [hte, Option.bind_some] at h
        obtain ⟨i2, d2, hi2, hd2, hs2, _, hk2, z, hz, hzr, hag, _, hzl⟩ := (hT e te hte).ok
        obtain ⟨z1, z2, z3⟩ := zero_cells hzr hzl G
        split at h
        · rename_i h24
          unfold litS at h
          cases hf : fillA (fun i => some (i * te.size, te.size)) (reps len te.zero) ps with
          | none => simp [hf] at h
          | some cs =>
            simp only [hf, Option.bind_some] at h
            obtain ⟨arr, ha, hv, hone⟩ := fill_sound hf (zeros_VRs z1 len (len * te.size) (by rw [hzl])) hp ((zeros_VRs z1 len (len * te.size) (by rw [hzl])).cellish (reps_all z3 _))
            have hlen : cs.length = arr.size := by rw [hv.len]; simp
            have hrun : (Instr.buildSlice t len pv).run P w = .ok (.slice (some ⟨w.heap.size, 0, none⟩) len len) (w.alloc (.cells arr e)) := by
              have h24' : ¬ (16777216 < len * te.size) := by omega
              simp only [Instr.buildSlice, Sem.run_bind, run_underlying hd, Result.andThen_ok, r_size hi2, hs2]
              by_cases h0 : len * te.size = 0
              · have hrange : Array.range (len * te.size) = #[] := by rw [h0]; simp
                rw [hrange] at ha
                simp only [List.map_toArray, List.map_nil] at ha
                have hr0 : Array.range 0 = #[] := by simp
                simp [h24', h0, hr0, ha, newRow]
              · simp [h24', h0, r_zero hi2 hz, ha, newRow]
            have hcs : cs.length = len * te.size := by
              have : ∀ {ps : List (Nat × AV)} {c0 cs : List AV}, fillA (fun i => some (i * te.size, te.size)) c0 ps = some cs → cs.length = c0.length := by
                intro ps
                induction ps with
                | nil => intro c0 cs h; simp [fillA] at h; rw [h]
                | cons x r ih =>
                  intro c0 cs h
                  obtain ⟨j, a⟩ := x
                  simp only [fillA] at h
                  split at h
                  · rename_i hc; rw [ih h, splice_len _ _ _ (by omega)]
                  · cases h
              rw [this hf, reps_len, hzl]
            split at h
            · simp only [Option.some.injEq, Prod.mk.injEq] at h
              obtain ⟨rfl, rfl⟩ := h
              obtain ⟨G', k1, k2, k3, k4⟩ := rel_newcells hR arr e (0, 0) cs 0 0 (by omega) (by simpa [hlen, List.take_of_length_le] using hv) (fun v hv => hone v (List.mem_of_mem_take hv)) (free0 _ _)
              exact ⟨_, _, G', hrun, k1, k2, .ms _ 0 0 len te.size _ 0 len _ k3 (Nat.le_refl _) (.inr ⟨rfl, _, k4, by omega⟩)⟩
            · simp only [Option.some.injEq, Prod.mk.injEq] at h
              obtain ⟨rfl, rfl⟩ := h
              obtain ⟨G', k1, k2, k3, k4⟩ := rel_newrow hR arr e (0, 0)
              exact ⟨_, _, G', hrun, k1, k2, .is cs len .full _ 0 len _ k3 (by simp; omega) (Nat.le_refl _) rfl (fun j a v ha hv' => (hv.mono k1).at_ j a v ha (by simpa using hv')) (fun j v _ hv' => hone v (by simp only [Nat.zero_add] at hv'; exact List.mem_of_getElem? hv'))⟩
        · cases h
    · cases h

theorem g_makeSlice (hT : TabOk P A) (hR : Rel A.bld A.u8 w0 G st w) {t : TypeId} {l c : AV} {lv cv : Value} {v : AV} (h : makeSlice A t l c st = some (v, st')) (hl : VR G l lv) (hc : VR G c cv) : Gives P A w0 G (Instr.makeSlice t lv cv) w v st' := by
  unfold makeSlice at h
  cases ht : assoc t A.tab with
  | none => simp [ht] at h
  | some td =>
    simp only [ht, Option.bind_some] at h
    obtain ⟨i, d, hi, hd, hs, _, hk, _⟩ := (hT t td ht).ok
    split at h
    · rename_i e hfs
      rw [hfs] at hk
      obtain rfl := kk_slice hk
      cases hte : assoc e A.tab with
      | none => simp [hte] at h
      | some te =>
        simp only [hte, Option.bind_some] at h
        obtain ⟨i2, d2, hi2, hd2, hs2, hb2, hk2, z, hz, hzr, hag, _, hzl⟩ := (hT e te hte).ok
        obtain ⟨z1, z2, z3⟩ := zero_cells hzr hzl G
        unfold mkS at h
        split at h
        · rename_i ln cn
          split at h
          · rename_i hcond
            obtain ⟨c1, c2, c3, c4⟩ := hcond
            simp only [Option.some.injEq, Prod.mk.injEq] at h
            obtain ⟨rfl, rfl⟩ := h
            cases hl; cases hc
            have hm : (madeCells z.cells (cn.toNat * i2.size)) = (Array.range (cn.toNat * te.size)).map (z.cells[· % z.cells.size]!) := by rw [hs2]; rfl
            have hsz : (madeCells z.cells (cn.toNat * i2.size)).size = cn.toNat * te.size := by rw [hm]; simp
            have hzz := zeros_VRs z1 cn.toNat (cn.toNat * te.size) (by rw [hzl])
            have hle : ln.toNat * te.size ≤ cn.toNat * te.size := Nat.mul_le_mul_right _ (by omega)
            have htake : reps ln.toNat te.zero = (reps cn.toNat te.zero).take (ln.toNat * te.size) := by
              apply List.ext_getElem?
              intro j
              rw [List.getElem?_take]
              by_cases hj : j < ln.toNat * te.size
              · rw [if_pos hj, reps_get _ _ _ (by rw [hzl]; exact hj), reps_get _ _ _ (by rw [hzl]; omega)]
              · rw [if_neg hj, List.getElem?_eq_none (by rw [reps_len, hzl]; omega)]
            obtain ⟨G', k1, k2, k3, k4⟩ := rel_newcells hR (madeCells z.cells (cn.toNat * i2.size)) e (0, 0) (reps ln.toNat te.zero) 0 0 (by rw [hsz, reps_len, hzl]; omega)
              (by rw [List.drop_zero, reps_len, hzl, hm, htake]; exact hzz.take _) (by rw [List.drop_zero, hm]; exact fun v hv => hzz.cellish (reps_all z3 _) v (List.mem_of_mem_take hv)) (free0 _ _)
            refine ⟨_, _, G', run_make w t e i2 z hd hi2 hz .i64 .i64 ln cn c1 c2 (by rw [hb2]; omega) c3, k1, k2, .ms _ 0 0 _ te.size _ 0 _ _ k3 (by omega) (.inr ⟨rfl, _, k4, ?_⟩)⟩
            rw [hsz]; omega
          · cases h
        · cases h
    · cases h

end

end Go.St
