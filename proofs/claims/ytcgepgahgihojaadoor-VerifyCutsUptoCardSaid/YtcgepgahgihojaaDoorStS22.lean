/- What a row reads has the shape of its type, and it is no longer than what can be reached. -/
import Derived.Test.YtcgepgahgihojaaDoorStS21
import GoSem.ClaimJoined
namespace Go.St
open Go.RowKit
set_option linter.unusedVariables false
set_option linter.unusedSimpArgs false

/-- The shape of a value of a type. -/
def Shp (A : AProg) : Nat → TypeId → List AV → Prop
  | 0, _, _ => False
  | n + 1, t, l => match assoc t A.tab with
    | none => False
    | some td => match td.k with
      | .bool => ∃ b, l = [.bool b]
      | .int k => ∃ x, l = [.int k x] ∧ (Lit.int k x).wf = true
      | .str => ∃ s : ByteArray, l = [.str s] ∧ s.size ≤ 140737488351232
      | .slice e => l = [.nils] ∨ ∃ ms, l = [rowAV ms] ∧ (∃ te, assoc e A.tab = some te ∧ ms.length * te.bytes ≤ 140737488351232) ∧ ∀ m ∈ ms, Shp A n e m
      | .struct fs => ∃ ms : List (List AV), l = ms.flatten ∧ ms.length = fs.length ∧ ∀ (i : Nat) (f : Nat × TypeId) (m : List AV), fs[i]? = some f → ms[i]? = some m → Shp A n f.2 m
      | _ => True

section
variable {P : Program} {A : AProg}

theorem weightsAll_mem {H : Type} {e : TypeId} : ∀ {l : List (DataW H)} {d : DataW H}, d ∈ l → ∀ x ∈ d.weights P e, x ∈ DataW.weightsAll P e l := by
  intro l
  induction l with
  | nil => intro d hd; simp at hd
  | cons a r ih =>
    intro d hd x hx
    rw [DataW.weightsAll]
    rcases List.mem_cons.1 hd with rfl | hd
    · exact List.mem_append.2 (.inl hx)
    · exact List.mem_append.2 (.inr (ih hd x hx))

theorem weightsEach_mem {H : Type} : ∀ {ts : List TypeId} {l : List (DataW H)} {i : Nat} {t : TypeId} {d : DataW H}, ts[i]? = some t → l[i]? = some d → ∀ x ∈ d.weights P t, x ∈ DataW.weightsEach P ts l := by
  intro ts
  induction ts with
  | nil => intro l i t d h; simp at h
  | cons a r ih =>
    intro l i t d ht hd x hx
    cases l with
    | nil => simp at hd
    | cons b l =>
      rw [DataW.weightsEach]
      cases i with
      | zero =>
        simp only [List.getElem?_cons_zero, Option.some.injEq] at ht hd
        subst ht; subst hd
        exact List.mem_append.2 (.inl hx)
      | succ i => exact List.mem_append.2 (.inr (ih (by simpa using ht) (by simpa using hd) x hx))

theorem tab_bytes (hT : TabOk P A) {t : TypeId} {td : TD} (h : assoc t A.tab = some td) : P.bytesOf t = td.bytes := by
  obtain ⟨i, d, hi, _, _, hb, _⟩ := (hT t td h).ok
  simp [Program.bytesOf, hi, hb]

set_option maxHeartbeats 4000000 in
theorem trod_shape (hT : TabOk P A) {ts : List TypeId} (hc : closedOn A ts = true) {H : Type} {enc : TypeId × Value → H} {w : World} {base : Nat} {sp : Nat → Bool} {held : Bool} :
    ∀ (n : Nat) (t : TypeId) (cs : List Value) (d : DataW H) (p : List MemPlace), t ∈ ts → DataW.trod enc P w base sp held n t cs = some (d, p) → (∀ x ∈ d.weights P t, x ≤ reachBytes) →
      ∃ l, avD A n t d = some l ∧ Shp A n t l := by
  intro n
  induction n with
  | zero => intro t cs d p _ h; simp [DataW.trod] at h
  | succ n ih =>
    intro t cs d p ht h hw
    obtain ⟨l, hl, -⟩ := trod_av hT hc (n + 1) t cs d p ht h
    refine ⟨l, hl, ?_⟩
    obtain ⟨td, htd, hcl⟩ := closed_of hc ht
    obtain ⟨i, ds, hi, hd, hs, _, hk, _⟩ := (hT t td htd).ok
    simp only [Shp, htd]
    simp only [DataW.trod, hd] at h
    simp only [avD, htd, Option.bind_some] at hl
    split at h
    · -- bool
      rename_i b he
      cases he
      cases h
      cases hk' : td.k <;> simp [hk', kindB] at hk
      rw [hk'] at hl
      cases hl
      exact ⟨_, rfl⟩
    · rename_i k k' m he
      cases he
      split at h
      · rename_i hwf
        cases h
        cases hk' : td.k <;> simp [hk', kindB] at hk
        obtain ⟨rfl, hwf⟩ := hwf
        subst hk
        rw [hk'] at hl
        simp only [hwf, and_self, if_true, Option.some.injEq] at hl
        exact ⟨_, hl.symm, hwf⟩
      · cases h
    · rename_i k k' b he
      cases he
      split at h
      · cases h
        cases hk' : td.k <;> simp [hk', kindB] at hk
        trivial
      · cases h
    · rename_i s he
      cases he
      split at h
      · rename_i hle
        cases h
        cases hk' : td.k <;> simp [hk', kindB] at hk
        rw [hk'] at hl
        have h2 := hw s.data.toList.length (by rw [DataW.weights]; simp)
        simp only [reachBytes] at h2
        simp only at hl
        split at hl
        · cases hl
          refine ⟨_, rfl, ?_⟩
          show s.data.toList.toArray.size ≤ _
          rw [List.size_toArray]
          exact h2
        · cases hl
      · cases h
    · rename_i e he
      cases he
      cases hk' : td.k <;> simp [hk', kindB] at hk
      trivial
    · rename_i e a he
      cases he
      cases hk' : td.k <;> simp [hk', kindB] at hk
      trivial
    · rename_i e he
      cases he
      cases h
      cases hk' : td.k <;> simp [hk', kindB] at hk
      rw [hk'] at hl
      simp only [Option.some.injEq] at hl
      exact .inl hl.symm
    · rename_i e a len cap he
      cases he
      cases hk' : td.k <;> simp [hk', kindB] at hk
      rename_i e'
      subst hk
      rw [hk'] at hl hcl
      simp only at hcl
      split at h
      · rename_i hcap
        obtain ⟨els, hels, h⟩ := Option.bind_eq_some_iff.1 h
        obtain ⟨rest, _, h⟩ := Option.map_eq_some_iff.1 h
        cases h
        simp only at hl
        split at hl
        · obtain ⟨ms, hms, hl⟩ := Option.map_eq_some_iff.1 hl
          refine .inr ⟨ms, hl.symm, ?_, ?_⟩
          · obtain ⟨te, hte, _⟩ := closed_of hc hcl
            refine ⟨te, hte, ?_⟩
            have hml := Lib.mapM_length hms
            have h2 := hw ((els.map (·.1)).length * P.bytesOf e' + (rest.map (·.1)).length * P.bytesOf e') (by rw [DataW.weights, hd, ← Nat.add_mul]; simp)
            rw [tab_bytes hT hte] at h2
            simp only [reachBytes] at h2
            rw [hml]
            omega
          · intro m hm
            obtain ⟨j, hj, rfl⟩ := List.getElem_of_mem hm
            have hml := Lib.mapM_length hms
            have hj2 : j < (els.map (·.1)).length := by omega
            have hj3 : j < els.length := by simpa using hj2
            obtain ⟨b, hb, hf⟩ := Lib.mapM_at hms j _ (List.getElem?_eq_getElem hj2)
            rw [List.getElem?_eq_getElem hj] at hb
            cases hb
            have hll : els.length = len := by have := Lib.mapM_length hels; simpa using this
            obtain ⟨x, hx, hf2⟩ := Lib.mapM_at hels j j (by rw [List.getElem?_range (by omega)])
            rw [List.getElem?_eq_getElem hj3] at hx
            cases hx
            obtain ⟨cs', hcs, htr⟩ := Option.bind_eq_some_iff.1 hf2
            obtain ⟨l', h1, h2⟩ := ih e' cs' _ _ hcl htr (fun x hx => hw x (by
              rw [DataW.weights, hd]
              refine List.mem_cons_of_mem _ (List.mem_append.2 (.inl (weightsAll_mem (List.mem_map.2 ⟨els[j], List.getElem_mem hj3, rfl⟩) x hx)))))
            rw [List.getElem_map] at hf
            have hf := h1.symm.trans hf
            cases hf
            exact h2
        · cases hl
      · cases h
    · rename_i cs _ _ fs he
      cases he
      cases hk' : td.k <;> simp [hk', kindB] at hk
      rename_i fs'
      rw [hk'] at hl hcl
      simp only at hcl
      split at h
      · rename_i hlen
        obtain ⟨xs, hxs, h⟩ := Option.map_eq_some_iff.1 h
        cases h
        have hfs := fieldsB_map hk
        have hxl := Lib.mapM_length hxs
        have hsz := tab_size hT htd
        obtain ⟨_, hmem, _⟩ := offB_cut (A := A) (ts := ts) P.cellsOf (fun t td _ h => tab_size hT h) (cs := cs) hcl (by rw [hlen, hsz])
        have hfl : fs'.length = (xs.map (·.1)).length := by rw [hfs, List.length_map, List.length_map, hxl]
        simp only [hfl, if_true] at hl
        obtain ⟨ms, hms, hl⟩ := Option.map_eq_some_iff.1 hl
        have hml := Lib.mapM_length hms
        refine ⟨ms, hl.symm, by rw [hml, List.length_zip, ← hfl, Nat.min_self], fun j f m hf hm => ?_⟩
        have hj : j < fs'.length := (List.getElem?_eq_some_iff.1 hf).1
        have hj2 : j < xs.length := by rw [hxl]; have := hj; rw [hfs, List.length_map] at this; exact this
        have hz : (fs'.zip (xs.map (·.1)))[j]? = some (f, xs[j].1) := by
          rw [List.getElem?_zip_eq_some]
          exact ⟨hf, by rw [List.getElem?_map, List.getElem?_eq_getElem hj2]; rfl⟩
        obtain ⟨b, hb, hfa⟩ := Lib.mapM_at hms j _ hz
        rw [hm] at hb
        cases hb
        rw [hfs, List.getElem?_map] at hf
        obtain ⟨g, hg, hf2⟩ := Option.map_eq_some_iff.1 hf
        subst hf2
        obtain ⟨y, hy, htr⟩ := Lib.mapM_at hxs j g hg
        rw [List.getElem?_eq_getElem hj2] at hy
        cases hy
        have hft : g.type ∈ ts := hmem (g.offset, g.type) (by rw [hfs]; exact List.mem_map.2 ⟨g, List.mem_of_getElem? hg, rfl⟩)
        obtain ⟨l', h1, h2⟩ := ih g.type _ _ _ hft htr (fun x hx => hw x (by
          rw [DataW.weights, hd]
          exact weightsEach_mem (i := j) (by rw [List.getElem?_map, hg]; rfl) (by rw [List.getElem?_map, List.getElem?_eq_getElem hj2]; rfl) x hx))
        have hfa := h1.symm.trans hfa
        cases hfa
        exact h2
      · cases h
    all_goals first
      | (rename_i he; cases he; cases hk' : td.k <;> simp [hk', kindB] at hk; trivial)
      | (rename_i he; cases he; cases hk' : td.k <;> simp [hk', kindB] at hk <;> trivial)
      | (rename_i _ he; cases he; cases hk' : td.k <;> simp [hk', kindB] at hk <;> trivial)
      | cases h

end

/-! ### How much it is -/
mutual
def AV.bulk : AV → Nat
  | .str s => s.size + 1
  | .is row _ _ => bulks row + 1
  | _ => 1
def bulks : List AV → Nat
  | [] => 0
  | v :: r => v.bulk + bulks r
end

theorem bulks_app (a b : List AV) : bulks (a ++ b) = bulks a + bulks b := by
  induction a with
  | nil => simp [bulks]
  | cons v r ih => simp only [List.cons_append, bulks, ih]; omega

theorem bulks_flat_le {ms : List (List AV)} {ns : List Nat} (hl : ms.length = ns.length) (h : ∀ (i : Nat) (m : List AV) (n : Nat), ms[i]? = some m → ns[i]? = some n → bulks m ≤ n) : bulks ms.flatten ≤ ns.sum := by
  induction ms generalizing ns with
  | nil => simp [bulks]
  | cons m r ih =>
    cases ns with
    | nil => simp at hl
    | cons n ns =>
      rw [List.flatten_cons, bulks_app, List.sum_cons]
      have h0 := h 0 m n rfl rfl
      have := ih (ns := ns) (by simpa using hl) fun i m' n' hm hn => h (i + 1) m' n' (by simpa using hm) (by simpa using hn)
      omega

/-- What is read is no more than the datum. -/
theorem avD_bulk {A : AProg} {H : Type} (bk : DataW H → Nat) (bks : List (DataW H) → Nat) (h1 : ∀ d, 1 ≤ bk d) (h2 : ∀ s, bk (.lit (.string s)) = s.length + 1) (h3 : ∀ a b, bks a + 1 ≤ bk (.slice a b)) (h4 : ∀ a, bks a + 1 ≤ bk (.agg a))
    (h5 : ∀ l, bks l = (l.map bk).sum) : ∀ (n : Nat) (t : TypeId) (d : DataW H) (l : List AV), avD A n t d = some l → bulks l ≤ bk d := by
  intro n
  induction n with
  | zero => intro t d l h; simp [avD] at h
  | succ n ih =>
    intro t d l h
    have one : ∀ x : AV, x.bulk = 1 → l = [x] → bulks l ≤ bk d := by
      rintro x hx rfl
      have := h1 d
      simp only [bulks, hx]
      omega
    have all : ∀ {ds : List (DataW H)} {e : TypeId} {ms : List (List AV)}, ds.mapM (avD A n e) = some ms → bulks ms.flatten ≤ bks ds := by
      intro ds e ms hms
      rw [h5]
      have hml := Lib.mapM_length hms
      refine bulks_flat_le (by rw [hml, List.length_map]) fun i m k hm hk => ?_
      rw [List.getElem?_map] at hk
      obtain ⟨x, hx, rfl⟩ := Option.map_eq_some_iff.1 hk
      obtain ⟨b, hb, hf⟩ := Lib.mapM_at hms i x hx
      rw [hm] at hb
      cases hb
      exact ih e x m hf
    simp only [avD] at h
    obtain ⟨td, _, h⟩ := Option.bind_eq_some_iff.1 h
    split at h
    · cases h; exact one _ rfl rfl
    · split at h
      · cases h; exact one _ rfl rfl
      · cases h
    · split at h
      · cases h
        rename_i s _ _
        rw [h2]
        simp only [bulks, AV.bulk]
        show s.toArray.size + 1 + 0 ≤ _
        rw [List.size_toArray]
        omega
      · cases h
    · cases h; exact one _ rfl rfl
    · obtain ⟨m, _, rfl⟩ := Option.map_eq_some_iff.1 h
      refine one (ptrAV m) ?_ rfl
      unfold ptrAV
      split <;> rfl
    · cases h; exact one _ rfl rfl
    · split at h
      · obtain ⟨ms, hms, rfl⟩ := Option.map_eq_some_iff.1 h
        have := all hms
        rename_i ds sp _ _ _
        have := h3 ds sp
        simp only [bulks, rowAV]
        split
        · simp only [AV.bulk]; omega
        · simp only [AV.bulk]; omega
      · cases h
    · split at h
      · obtain ⟨ms, hms, rfl⟩ := Option.map_eq_some_iff.1 h
        rename_i fs ds _ hl _
        have h4 := h4 ds
        have hml := Lib.mapM_length hms
        have : bulks ms.flatten ≤ (ds.map bk).sum := by
          refine bulks_flat_le (by rw [hml, List.length_map, List.length_zip, hl, Nat.min_self]) fun i m k hm hk => ?_
          rw [List.getElem?_map] at hk
          obtain ⟨x, hx, rfl⟩ := Option.map_eq_some_iff.1 hk
          have hi : i < ds.length := (List.getElem?_eq_some_iff.1 hx).1
          have hz : (fs.zip ds)[i]? = some (fs[i], x) := by
            rw [List.getElem?_zip_eq_some]
            exact ⟨List.getElem?_eq_getElem (by omega), hx⟩
          obtain ⟨b, hb, hf⟩ := Lib.mapM_at hms i _ hz
          rw [hm] at hb
          cases hb
          exact ih _ x m hf
        rw [h5] at h4
        omega
      · cases h
    · split at h
      · obtain ⟨ms, hms, rfl⟩ := Option.map_eq_some_iff.1 h
        have := all hms
        rename_i k e ds _ _ _
        have := h4 ds
        omega
      · cases h
    · cases h; exact one _ rfl rfl
    · cases h; exact one _ rfl rfl
    · cases h; exact one _ rfl rfl
    · cases h; exact one _ rfl rfl
end Go.St
