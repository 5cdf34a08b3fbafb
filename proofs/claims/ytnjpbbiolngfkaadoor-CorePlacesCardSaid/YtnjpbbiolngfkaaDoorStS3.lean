/- What the operations do in memory: tables, loads, stores. -/
import Derived.Test.YtnjpbbiolngfkaaDoorStS2
import Derived.Deep.AppendSrc
import Derived.Laws.MakeOwn
import Derived.Laws.Tables
import Derived.Laws.Entries
import Derived.Lib.FrozenHead
namespace Go.St
open Go.RowKit
set_option linter.unusedVariables false
set_option linter.unusedSimpArgs false

/-! ### The table of types -/
def zrB : AV → Value → Bool
  | .bool a, .bool b => a == b
  | .int k n, .int k' n' => k == k' && n == n'
  | .str s, .string t => decide (s = t)
  | .nilp, .pointer none => true
  | .nils, .slice none 0 0 => true
  | .nilm, .map none => true
  | .nilfn, .nilFunc => true
  | .nili, .nilIface => true
  | _, _ => false
def zrsB : List AV → List Value → Bool
  | [], [] => true
  | a :: as, v :: vs => zrB a v && zrsB as vs
  | _, _ => false
def fieldsB : List (Nat × TypeId) → List Field → Bool
  | [], [] => true
  | (o, t) :: r, f :: fs => o == f.offset && t == f.type && fieldsB r fs
  | _, _ => false
def kindB : TK → TypeDesc → Bool
  | .bool, .bool => true
  | .int k, .int k' => k == k'
  | .str, .string => true
  | .ptr e, .pointer e' => e == e'
  | .slice e, .slice e' => e == e'
  | .arr n e, .array n' e' => n == n' && e == e'
  | .struct fs, .struct fs' => fieldsB fs fs'.toList
  | .map k e, .map k' e' => k == k' && e == e'
  | .func, .func _ _ _ => true
  | .iface n, .interface ms => n == ms.size
  | .tuple, .tuple _ => true
  | .unsafeP, .unsafePointer => true
  | .other, .float _ => true
  | .other, .complex _ => true
  | .other, .chan _ _ => true
  | _, _ => false
def tdB (P : Program) (t : TypeId) (td : TD) : Bool :=
  match P.info? t, P.underlying t with
  | some i, some d => i.size == td.size && i.bytes == td.bytes && kindB td.k d &&
      (match i.zero with | some z => zrsB td.zero z.cells.toList && (match z with | .agg _ => td.isAgg | .tuple _ => false | _ => !td.isAgg) && td.zero.length == td.size | none => false)
  | _, _ => false

structure TdOk (P : Program) (t : TypeId) (td : TD) : Prop where
  ok : ∃ i d, P.info? t = some i ∧ P.underlying t = some d ∧ i.size = td.size ∧ i.bytes = td.bytes ∧ kindB td.k d = true ∧
    ∃ z, i.zero = some z ∧ zrsB td.zero z.cells.toList = true ∧ (td.isAgg = true → ∃ cs, z = .agg cs) ∧ (td.isAgg = false → z.oneCell' = true) ∧ td.zero.length = td.size

theorem tdOk_of {P : Program} {t : TypeId} {td : TD} (h : tdB P t td = true) : TdOk P t td := by
  unfold tdB at h
  split at h
  · rename_i i d hi hd
    simp only [Bool.and_eq_true, beq_iff_eq] at h
    obtain ⟨⟨⟨h1, h2⟩, h3⟩, h4⟩ := h
    refine ⟨i, d, hi, hd, h1, h2, h3, ?_⟩
    split at h4
    · rename_i z hz
      simp only [Bool.and_eq_true, beq_iff_eq] at h4
      obtain ⟨⟨a, c⟩, dd⟩ := h4
      refine ⟨z, hz, a, fun ha => ?_, fun ha => ?_, dd⟩
      · cases z <;> simp_all
      · cases z <;> simp_all [Value.oneCell']
    · cases h4
  · cases h

def TabOk (P : Program) (A : AProg) : Prop := ∀ t td, assoc t A.tab = some td → TdOk P t td

theorem assoc_mem {α : Type} {k : Nat} {l : List (Nat × α)} {a : α} (h : assoc k l = some a) : (k, a) ∈ l := by
  induction l with
  | nil => cases h
  | cons x r ih =>
    obtain ⟨j, b⟩ := x
    unfold assoc at h
    split at h
    · rename_i hj; cases h; subst hj; simp
    · exact List.mem_cons_of_mem _ (ih h)

theorem tabOk_of {P : Program} {A : AProg} (h : (A.tab.all fun x => tdB P x.1 x.2) = true) : TabOk P A := by
  intro t td ht
  rw [List.all_eq_true] at h
  exact tdOk_of (h _ (assoc_mem ht))

theorem zrB_VR {a : AV} {v : Value} (h : zrB a v = true) (G : Gh) : VR G a v ∧ a.isCell = true := by
  unfold zrB at h
  split at h <;> first
    | (simp only [beq_iff_eq] at h; subst h; exact ⟨by constructor, rfl⟩)
    | (simp only [decide_eq_true_eq] at h; subst h; exact ⟨by constructor, rfl⟩)
    | (simp only [Bool.and_eq_true, beq_iff_eq] at h; obtain ⟨rfl, rfl⟩ := h; exact ⟨by constructor, rfl⟩)
    | exact ⟨by constructor, rfl⟩
    | cases h
theorem zrsB_VRs : ∀ {as : List AV} {vs : List Value}, zrsB as vs = true → ∀ G, VRs G as vs ∧ as.all AV.isCell = true := by
  intro as
  induction as with
  | nil => intro vs h G; cases vs with | nil => exact ⟨VRs.nil G, rfl⟩ | cons _ _ => cases h
  | cons a as ih =>
    intro vs h G
    cases vs with
    | nil => cases h
    | cons v vs =>
      simp only [zrsB, Bool.and_eq_true] at h
      have h1 := zrB_VR h.1 G
      have h2 := ih h.2 G
      exact ⟨VRs.cons h1.1 h2.1, by simp [h1.2]; simpa using h2.2⟩

/-! ### What a piece of work gives -/
def Gives (P : Program) (A : AProg) (w0 : World) (G : Gh) (s : Sem Value) (w : World) (v : AV) (st' : Sto) : Prop :=
  ∃ v' w' G', s.run P w = .ok v' w' ∧ G.le G' ∧ Rel A.bld A.u8 w0 G' st' w' ∧ VR G' v v'
def GivesU (P : Program) (A : AProg) (w0 : World) (G : Gh) (s : Sem Unit) (w : World) (st' : Sto) : Prop :=
  ∃ w' G', s.run P w = .ok () w' ∧ G.le G' ∧ Rel A.bld A.u8 w0 G' st' w'

section
variable {P : Program} {A : AProg} {w0 : World} {G : Gh} {st st' : Sto} {w : World}

theorem Gives.same {s : Sem Value} {v : AV} {v' : Value} (hR : Rel A.bld A.u8 w0 G st w) (h : s.run P w = .ok v' w) (hv : VR G v v') : Gives P A w0 G s w v st :=
  ⟨v', w, G, h, Gh.le.refl G, hR, hv⟩

theorem r_info {t : TypeId} {i : TypeInfo} (h : P.info? t = some i) (w : World) : (typeInfo t).run P w = .ok i w := by simp [typeInfo, h]
theorem r_size {t : TypeId} {i : TypeInfo} (h : P.info? t = some i) (w : World) : (sizeOf t).run P w = .ok i.size w := by simp [sizeOf, r_info h]
theorem r_zero {t : TypeId} {i : TypeInfo} {z : Value} (h : P.info? t = some i) (hz : i.zero = some z) (w : World) : (zeroValue t).run P w = .ok z w := by simp [zeroValue, r_info h, hz]
theorem r_isAgg {t : TypeId} {td : TD} {d : TypeDesc} (hd : P.underlying t = some d) (hk : kindB td.k d = true) (w : World) : (isAgg t).run P w = .ok td.isAgg w := by
  simp only [isAgg, Sem.run_bind, run_underlying hd, Result.andThen_ok]
  obtain ⟨k, _, _, _⟩ := td
  cases k <;> cases d <;> first | rfl | (simp [kindB] at hk)

theorem add_lit (b o j : Nat) : (⟨b, o, none⟩ : Addr).add j = ⟨b, o + j, none⟩ := by unfold Addr.add; split <;> simp_all
theorem cell_at {b : Nat} {arr : Array Value} {t : TypeId} {fr : Nat × Nat} (h : w.heap[b]? = some (.cells arr t fr)) (o : Nat) : w.cell? ⟨b, o, none⟩ = arr[o]? := by simp [World.cell?, h]

/-- What is read at a pointer. -/
theorem ldCells_sound (hR : Rel A.bld A.u8 w0 G st w) {p : AV} {n : Nat} {cs : List AV} {pv : Value} (h : ldCells st p n = some cs) (hp : VR G p pv) :
    ∃ (b o : Nat) (vs : List Value), pv = .pointer (some ⟨b, o, none⟩) ∧ VRs G cs vs ∧ vs.length = n ∧ ∀ j v, vs[j]? = some v → w.cell? ⟨b, o + j, none⟩ = some v := by
  obtain ⟨own, hR⟩ := hR
  cases hp with
  | ip xs b o l hH hl hh =>
    simp only [ldCells] at h
    split at h
    · rename_i hn
      cases h
      obtain ⟨arr, t, fr, m, hb, hm⟩ := hR.prot b l hH
      have hv := (VRs.of_row hl hh).take n
      rw [List.take_take] at hv
      refine ⟨b, o, (l.drop o).take (min n xs.length), rfl, hv, by simp; omega, fun j v hv => ?_⟩
      rw [cell_at hb, ← Array.getElem?_toList, hm]
      rw [List.getElem?_take] at hv
      split at hv
      · rw [List.getElem?_drop] at hv
        rw [List.getElem?_append_left (by have := (List.getElem?_eq_some_iff.1 hv).1; exact this)]
        exact hv
      · cases hv
    · cases h
  | mp id g off b o hρ =>
    simp only [ldCells] at h
    split at h
    · rename_i g' cs' fz hid
      split at h
      · rename_i hc
        obtain ⟨rfl, hc⟩ := hc
        cases h
        obtain ⟨b', o', arr, t, fr, h1, h2, h3, h4, h5, h6, h7, h9, h8⟩ := hR.obj id _ hid
        rw [hρ] at h1
        cases h1
        refine ⟨b, o + off, (((arr.toList.drop o).take cs'.length).drop off).take n, rfl, (h7.drop off).take n, by simp; omega, fun j v hv => ?_⟩
        rw [cell_at h5, ← Array.getElem?_toList]
        rw [List.getElem?_take] at hv
        split at hv
        · rw [List.getElem?_drop, List.getElem?_take] at hv
          split at hv
          · rw [List.getElem?_drop] at hv
            rw [← hv]
            congr 1
            omega
          · cases hv
        · cases hv
      · cases h
    · cases h
  | _ => simp [ldCells] at h

theorem g_load (hT : TabOk P A) (hR : Rel A.bld A.u8 w0 G st w) {t : TypeId} {td : TD} (ht : assoc t A.tab = some td) {p v : AV} {pv : Value} (h : ld td.isAgg td.size st p = some v) (hp : VR G p pv) :
    Gives P A w0 G (Instr.loadAt t pv) w v st := by
  obtain ⟨i, d, hi, hd, hs, _, hk, _⟩ := (hT t td ht).ok
  unfold ld at h
  cases hc : ldCells st p td.size with
  | none => simp [hc] at h
  | some cs =>
    simp only [hc, Option.bind_some] at h
    obtain ⟨b, o, vs, rfl, hv, hn, hcell⟩ := ldCells_sound hR hc hp
    have hcells : (loadCells ⟨b, o, none⟩ td.size).run P w = .ok vs.toArray w := by
      rw [← hn]
      exact run_loadCells_list w ⟨b, o, none⟩ vs fun j v hj => by rw [add_lit]; exact hcell j v hj
    unfold pack at h
    cases hag : td.isAgg with
    | true =>
      simp only [hag, if_true] at h
      cases h
      refine Gives.same (v' := .agg vs.toArray) hR ?_ (.agg cs vs.toArray (by simpa using hv.len) fun j a v ha hv' => hv.at_ j a v ha (by simpa using hv'))
      simp [Instr.loadAt, Instr.sureAddr, loadVar, r_isAgg hd hk, hag, r_size hi, hs, hcells]
    | false =>
      simp only [hag, Bool.false_eq_true, if_false] at h
      split at h
      · rename_i c
        cases h
        obtain ⟨v', ws, rfl, h1, h2⟩ := hv.head
        have hw : w.cell? ⟨b, o, none⟩ = some v' := by have := hcell 0 v' rfl; simpa using this
        refine Gives.same (v' := v') hR ?_ h1
        simp [Instr.loadAt, Instr.sureAddr, loadVar, r_isAgg hd hk, hag, hw]
      · cases h

/-! ### Stores -/
theorem splice_cons {α : Type} (xs : List α) (o : Nat) (v : α) (r : List α) (h : o < xs.length) : splice (xs.set o v) (o + 1) r = splice xs o (v :: r) := by
  unfold splice
  rw [List.set_eq_take_append_cons_drop, if_pos h]
  have h1 : (xs.take o).length = o := by simp; omega
  have e1 : (xs.take o ++ v :: xs.drop (o + 1)).take (o + 1) = xs.take o ++ [v] := by
    rw [List.take_append, h1]
    simp [List.take_of_length_le (show (xs.take o).length ≤ o + 1 by omega)]
  have e2 : (xs.take o ++ v :: xs.drop (o + 1)).drop (o + 1 + r.length) = xs.drop (o + (v :: r).length) := by
    rw [List.drop_append, h1]
    have : o + 1 + r.length - o = r.length + 1 := by omega
    rw [this, List.drop_succ_cons, List.drop_drop, List.drop_of_length_le (by omega)]
    simp only [List.nil_append, List.length_cons]
    congr 1
    omega
  rw [e1, e2]
  simp
theorem setCells_heap (b : Nat) (t : TypeId) (fr : Nat × Nat) : ∀ (vs : List Value) (o : Nat) (w : World) (arr : Array Value), w.heap[b]? = some (.cells arr t fr) → o + vs.length ≤ arr.size →
    (w.setCells b o vs).heap[b]? = some (.cells (splice arr.toList o vs).toArray t fr) := by
  intro vs
  induction vs with
  | nil =>
    intro o w arr h hl
    simp only [World.setCells]
    rw [h]
    simp [splice]
  | cons v r ih =>
    intro o w arr h hl
    simp only [List.length_cons] at hl
    simp only [World.setCells]
    have h1 : (w.setCell ⟨b, o, none⟩ v).heap[b]? = some (.cells (arr.setIfInBounds o v) t fr) := by simp [World.setCell, Array.getElem?_modify, h]
    rw [ih (o + 1) _ _ h1 (by simp; omega)]
    rw [Array.toList_setIfInBounds, splice_cons _ _ _ _ (by simp; omega)]

theorem setCells_far (b : Nat) : ∀ (vs : List Value) (o : Nat) (w : World) (k : Nat), k ≠ b → (w.setCells b o vs).heap[k]? = w.heap[k]? := by
  intro vs
  induction vs with
  | nil => intro o w k hk; rfl
  | cons v r ih => intro o w k hk; simp only [World.setCells]; rw [ih _ _ _ hk]; exact Below.heap_setCell _ _ _ _ hk
theorem setCells_same (b : Nat) : ∀ (vs : List Value) (o : Nat) (w : World), (w.setCells b o vs).os = w.os ∧ (w.setCells b o vs).tape = w.tape ∧ (w.setCells b o vs).output = w.output ∧ (w.setCells b o vs).heap.size = w.heap.size := by
  intro vs
  induction vs with
  | nil => intro o w; exact ⟨rfl, rfl, rfl, rfl⟩
  | cons v r ih => intro o w; simp only [World.setCells]; have := ih (o + 1) (w.setCell ⟨b, o, none⟩ v); simpa [World.setCell] using this

theorem splice_len {α : Type} (xs ys : List α) (o : Nat) (h : o + ys.length ≤ xs.length) : (splice xs o ys).length = xs.length := by simp [splice]; omega
theorem splice_mid {α : Type} (xs ys : List α) (o off n : Nat) (h : o + n ≤ xs.length) (h2 : off + ys.length ≤ n) : ((splice xs (o + off) ys).drop o).take n = splice ((xs.drop o).take n) off ys := by
  unfold splice
  apply List.ext_getElem?
  intro k
  simp only [List.getElem?_append, List.getElem?_take, List.getElem?_drop, List.length_take, List.length_drop]
  have m1 : min (o + off) xs.length = o + off := by omega
  have m2 : min off (min n (xs.length - o)) = off := by omega
  rw [m1, m2]
  by_cases hk : k < n
  · by_cases h1 : k < off
    · have e1 : o + k < o + off := by omega
      simp [hk, h1, e1]
    · have e1 : ¬ o + k < o + off := by omega
      have e2 : o + k - (o + off) = k - off := by omega
      simp only [hk, h1, e1, e2, if_true, if_false]
      by_cases h3 : k - off < ys.length
      · simp [h3]
      · have e3 : off + ys.length + (k - off - ys.length) < n := by omega
        have e4 : o + (off + ys.length + (k - off - ys.length)) = o + off + ys.length + (k - off - ys.length) := by omega
        simp [h3, e3, e4]
  · have e1 : ¬ k < off := by omega
    have e2 : ¬ k - off < ys.length := by omega
    have e3 : ¬ off + ys.length + (k - off - ys.length) < n := by omega
    simp [hk, e1, e2, e3]

/-- Cells are written into an object. -/
theorem stCells_sound (hR : Rel A.bld A.u8 w0 G st w) {p : AV} {vs : List AV} {pv : Value} {ws : List Value} (h : stCells st p vs = some st') (hp : VR G p pv) (hv : VRs G vs ws) :
    ∃ (b o : Nat), pv = .pointer (some ⟨b, o, none⟩) ∧ (storeCells ⟨b, o, none⟩ ws).run P w = .ok () (w.setCells b o ws) ∧ Rel A.bld A.u8 w0 G st' (w.setCells b o ws) := by
  obtain ⟨own, hR⟩ := hR
  cases hp with
  | mp id g off b o hρ =>
    simp only [stCells] at h
    split at h
    · rename_i g' cs fz hid
      split at h
      · rename_i hc
        obtain ⟨rfl, hfz, hc, hall⟩ := hc
        cases h
        obtain ⟨b', o', arr, t, fr, h1, h2, h3, h4, h5, h6, h7, h9, h8⟩ := hR.obj id _ hid
        rw [hρ] at h1
        cases h1
        have hone := hv.cellish hall
        have hlen : ws.length = vs.length := hv.len.symm
        have hst := run_storeCells_cells (P := P) b (o + off) ws 0 w (fun j hj => by rw [cell_at h5]; rw [Array.getElem?_eq_getElem (by omega)]; rfl)
          (fun j hj => by
            have := h8 (by omega) (o + off + 0 + j) (by omega) (by omega)
            obtain ⟨lo, hi⟩ := fr
            simp only at this
            simp only [World.frozen?, h5, Bool.and_eq_false_iff, decide_eq_false_iff_not]
            omega) hone
        simp only [Nat.add_zero] at hst
        refine ⟨b, o + off, rfl, hst, own, ?_⟩
        have hsm := setCells_same b ws (o + off) w
        have hb := setCells_heap b t fr ws (o + off) w arr h5 (by omega)
        refine hR.upd (S := fun k => k = b) id _ hsm.1 hsm.2.1 hsm.2.2.1 (by rw [hsm.2.2.2]; exact Nat.le_refl _) (fun k hk => setCells_far b ws _ w k hk) (fun k hk => ?_) (Gh.le.refl G) (fun _ _ => rfl)
          (fun k l hk hl => ?_) (fun k n hn => ?_) (.inl ⟨rfl, _, hid, Nat.le_refl _⟩) (fun k => .inl rfl) (fun j g x hx => .inl hx) ?_
        · subst hk; exact ⟨(hR.ownlt _ _ h2).1, .inr h2⟩
        · subst hk; rw [h3] at hl; cases hl
        · by_cases hk : k = b
          · subst hk; rw [h4] at hn; cases hn
            exact .inr ⟨_, t, fr, hb, by simp [splice_len _ _ _ (show o + off + ws.length ≤ arr.toList.length by simp; omega)]⟩
          · exact .inl ⟨hk, hn⟩
        · have hsz : (splice arr.toList (o + off) ws).toArray.size = arr.size := by simp [splice_len _ _ _ (show o + off + ws.length ≤ arr.toList.length by simp; omega)]
          have e : ((splice arr.toList (o + off) ws).toArray.toList.drop o).take cs.length = splice ((arr.toList.drop o).take cs.length) off ws := by
            simpa using splice_mid arr.toList ws o off cs.length (by simpa using h6) (by omega)
          refine ⟨b, o, _, t, fr, hρ, h2, h3, by rw [hsz]; exact h4, hb, by rw [hsz, splice_len _ _ _ (by omega)]; exact h6, ?_, ?_, by rw [hsz, splice_len _ _ _ (by omega)]; exact h8⟩
          · rw [splice_len _ _ _ (by omega), e]
            exact h7.splice off hv
          · rw [splice_len _ _ _ (by omega), e]
            intro v hv'
            unfold splice at hv'
            simp only [List.mem_append] at hv'
            rcases hv' with hv' | hv' | hv'
            · exact h9 v (List.mem_of_mem_take hv')
            · exact hone v hv'
            · exact h9 v (List.mem_of_mem_drop hv')
      · cases h
    · cases h
  | _ => simp [stCells] at h

theorem g_store (hT : TabOk P A) (hR : Rel A.bld A.u8 w0 G st w) {t : TypeId} {td : TD} (ht : assoc t A.tab = some td) {p v : AV} {pv vv : Value} (h : sto td.size st p v = some st') (hp : VR G p pv) (hv : VR G v vv) :
    GivesU P A w0 G (Instr.storeAt t pv vv) w st' := by
  obtain ⟨i, d, hi, hd, hs, _, hk, _⟩ := (hT t td ht).ok
  unfold sto at h
  split at h
  · rename_i hl
    have hall : v.cells.all AV.isCell = true := by
      unfold stCells at h
      split at h
      · split at h
        · split at h
          · rename_i hc; exact hc.2.2.2
          · cases h
        · cases h
      · cases h
    obtain ⟨hvs, _⟩ := hv.cells hall
    obtain ⟨b, o, rfl, hst, hR'⟩ := stCells_sound (P := P) hR h hp hvs
    refine ⟨_, G, ?_, Gh.le.refl G, hR'⟩
    have hlen : vv.cells.size = i.size := by rw [hs, ← hl, hvs.len]; simp
    simp [Instr.storeAt, Instr.sureAddr, storeVar, r_size hi, hlen, hst]
  · cases h
end

end Go.St
