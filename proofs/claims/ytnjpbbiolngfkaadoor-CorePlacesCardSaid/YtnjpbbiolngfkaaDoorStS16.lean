/- A builder's buffer. -/
import Derived.Test.YtnjpbbiolngfkaaDoorStS15
namespace Go.St
open Go.RowKit
set_option linter.unusedVariables false
set_option linter.unusedSimpArgs false

/-- A buffer that holds s. -/
def Buf (e : TypeId) (w : World) (v : Value) (s : ByteArray) : Prop :=
  (v = .slice none 0 0 ∧ s = ByteArray.empty) ∨ ∃ g cap cur fz, v = .slice (some ⟨g, 0, none⟩) s.size cap ∧ w.heap[g]? = some (.cells cur e (0, fz)) ∧
    s.size ≠ 0 ∧ fz ≤ s.size ∧ s.size ≤ cap ∧ cap ≤ maxLen ∧ cur.size = cap ∧ cur.toList.take s.size = byteCells s

structure Turned (w w' : World) (S : Nat → Prop) : Prop where
  os : w'.os = w.os
  tape : w'.tape = w.tape
  output : w'.output = w.output
  size : w.heap.size ≤ w'.heap.size
  other : ∀ k, k < w.heap.size → ¬ S k → w'.heap[k]? = w.heap[k]?
  sized : ∀ (k : Nat) (arr : Array Value) (t : TypeId) (fr : Nat × Nat), w.heap[k]? = some (.cells arr t fr) → ∃ (arr' : Array Value) (t' : TypeId) (fr' : Nat × Nat), w'.heap[k]? = some (.cells arr' t' fr') ∧ arr'.size = arr.size

theorem Turned.refl (w : World) (S : Nat → Prop) : Turned w w S := ⟨rfl, rfl, rfl, Nat.le_refl _, fun _ _ _ => rfl, fun k arr t fr h => ⟨arr, t, fr, h, rfl⟩⟩
theorem Turned.trans {a b c : World} {S : Nat → Prop} (h : Turned a b S) (k : Turned b c S) : Turned a c S := by
  refine ⟨k.os.trans h.os, k.tape.trans h.tape, k.output.trans h.output, Nat.le_trans h.size k.size, fun i hi hs => (k.other i (Nat.lt_of_lt_of_le hi h.size) hs).trans (h.other i hi hs), fun i arr t fr hi => ?_⟩
  obtain ⟨a1, t1, f1, h1, h2⟩ := h.sized i arr t fr hi
  obtain ⟨a2, t2, f2, h3, h4⟩ := k.sized i a1 t1 f1 h1
  exact ⟨a2, t2, f2, h3, h4.trans h2⟩
theorem Turned.mono {a b : World} {S T : Nat → Prop} (h : Turned a b S) (hS : ∀ k, k < a.heap.size → S k → T k) : Turned a b T :=
  ⟨h.os, h.tape, h.output, h.size, fun i hi hs => h.other i hi fun x => hs (hS i hi x), h.sized⟩
theorem Turned.alloc1 (w : World) (S : Nat → Prop) (o : Obj) : Turned w (w.alloc o) S :=
  ⟨rfl, rfl, rfl, by show w.heap.size ≤ (w.heap.push o).size; simp, fun k hk hs => Below.heap_alloc w o k hk, fun k arr t fr h => ⟨arr, t, fr, (Below.heap_alloc w o k (Array.getElem?_eq_some_iff.1 h).1).trans h, rfl⟩⟩
theorem Turned.alloc {a w : World} {S : Nat → Prop} (h : Turned a w S) (o : Obj) : Turned a (w.alloc o) S := h.trans (.alloc1 w S o)
theorem Turned.drew {a w : World} {S : Nat → Prop} (h : Turned a w S) : Turned a w.drew S := ⟨h.os, h.tape, h.output, h.size, h.other, h.sized⟩
theorem Turned.setCells {w : World} {S : Nat → Prop} (b o : Nat) (vs : List Value) (hb : S b ∨ w.heap[b]? = none) : Turned w (w.setCells b o vs) S := by
  have hsm := setCells_same b vs o w
  refine ⟨hsm.1, hsm.2.1, hsm.2.2.1, by rw [hsm.2.2.2]; exact Nat.le_refl _, fun k hk hs => setCells_far b vs _ w k (fun e => ?_), fun k arr t fr h => ?_⟩
  · subst e
    rcases hb with hb | hb
    · exact hs hb
    · rw [Array.getElem?_eq_none_iff] at hb; omega
  · induction vs generalizing o w arr with
    | nil => exact ⟨arr, t, fr, h, rfl⟩
    | cons v vs ih =>
      by_cases hk : k = b
      · subst hk
        have h1 : (w.setCell ⟨k, o, none⟩ v).heap[k]? = some (.cells (arr.setIfInBounds o v) t fr) := by simp [World.setCell, Array.getElem?_modify, h]
        obtain ⟨a', t', f', h2, h3⟩ := ih (w := w.setCell ⟨k, o, none⟩ v) (o + 1) (hb.imp id fun hb => by rw [h] at hb; cases hb) (setCells_same _ _ _ _) _ h1
        exact ⟨a', t', f', h2, by rw [h3]; simp⟩
      · exact ⟨arr, t, fr, (setCells_far b (v :: vs) o w k hk).trans h, rfl⟩
theorem Turned.setCell {a w : World} {S : Nat → Prop} (h : Turned a w S) (b o : Nat) (hp : S b ∨ a.heap.size ≤ b) (u : Value) : Turned a (w.setCell ⟨b, o, none⟩ u) S := by
  refine ⟨h.os, h.tape, h.output, by simpa [World.setCell] using h.size, fun k hk hs => (Below.heap_setCell w _ u k (fun e => by
    subst e
    rcases hp with hp | hp
    · exact hs hp
    · exact absurd hk (Nat.not_lt.2 hp))).trans (h.other k hk hs), fun k arr t fr hk => ?_⟩
  obtain ⟨a1, t1, f1, h1, h2⟩ := h.sized k arr t fr hk
  by_cases hkb : k = b
  · subst hkb
    exact ⟨a1.setIfInBounds o u, t1, f1, by simp [World.setCell, Array.getElem?_modify, h1], by simpa using h2⟩
  · exact ⟨a1, t1, f1, (Below.heap_setCell w _ u k hkb).trans h1, h2⟩

theorem bcells_app (s t : ByteArray) : byteCells (s ++ t) = byteCells s ++ byteCells t := by
  simp [byteCells]

section
variable {P : Program} {w : World}

/-- Bytes go behind a buffer's. -/
theorem append_buf {t tx ty e : TypeId} {i : TypeInfo} (ht : P.underlying t = some (.slice e)) (hi : P.info? e = some i) (hz : i.zero = some (.int .u8 0)) (hsz : i.size = 1) (hby : i.bytes = 1) {v : Value} {s : ByteArray} (h : Buf e w v s) {yv : Value} {r : ByteArray}
    (hs : Src P 1 tx yv r.size (byteCells r) w) (hl : s.size + r.size ≤ 70368744177664) :
    ∃ v' w', (Builtin.append_ #[t, tx] ty #[v, yv]).run P w = .ok v' w' ∧ Buf e w' v' (s ++ r) ∧ Turned w w' (fun k => v.ownBlock = some k) ∧ ∀ k, v'.ownBlock = some k → v.ownBlock = some k ∨ k = w.heap.size := by
  have hs' : Src P i.size tx yv r.size (byteCells r) w := by rw [hsz]; exact hs
  have hsa : (s ++ r).size = s.size + r.size := by simp
  have new : ∀ (base : Option Addr) (cap : Nat), s.size ≤ cap → cap < s.size + r.size → (Builtin.firstCells i.size s.size (.slice base s.size cap)).run P w.drew = .ok (byteCells s).toArray w.drew → v = .slice base s.size cap →
      ∃ v' w', (Builtin.append_ #[t, tx] ty #[v, yv]).run P w = .ok v' w' ∧ Buf e w' v' (s ++ r) ∧ Turned w w' (fun k => v.ownBlock = some k) ∧ ∀ k, v'.ownBlock = some k → v.ownBlock = some k ∨ k = w.heap.size := by
    rintro base cap hcap0 hcap hf rfl
    have hrun := run_append_grow_src w t tx ty e i (.int .u8 0) ht hi hz base s.size cap (byteCells s) hf yv r.size (byteCells r) hs' hcap (by omega) (growslice_fits hcap (by rw [hby]; omega))
    have hge := grownCap_ge w (s.size + r.size) cap e
    have hcm := grownCap_le_maxLen w (s.size + r.size) cap e (by unfold maxLen; omega)
    refine ⟨_, _, hrun, .inr ⟨w.heap.size, _, _, 0, by rw [hsa], alloc_at w.drew _, by omega, Nat.zero_le _, by rw [hsa]; exact hge, hcm, ?_, ?_⟩, ((Turned.refl w _).drew).alloc _, fun k hk => .inr ?_⟩
    · rw [Array.size_append, zeroCells_size]
      simp [byteCells_length, Value.cells]
      omega
    · rw [Array.toList_append, ← bcells_app, hsa]
      have : (byteCells (s ++ r)).length = s.size + r.size := by rw [byteCells_length, hsa]
      rw [← this]
      exact List.take_left
    · simpa [Value.ownBlock] using hk.symm
  rcases h with ⟨rfl, rfl⟩ | ⟨g, cap, cur, fz, rfl, hg, hs0, hfz, hsc, hcm, hcs, htk⟩
  · by_cases hr : r.size = 0
    · have hr' : r = ByteArray.empty := by
        apply ByteArray.ext
        apply Array.eq_empty_of_size_eq_zero
        exact hr
      subst hr'
      refine ⟨.slice none 0 0, w, ?_, .inl ⟨rfl, rfl⟩, Turned.refl w _, fun k hk => .inl hk⟩
      have hcells : (Builtin.firstCells i.size 0 yv).run P w = .ok (byteCells ByteArray.empty).toArray w := hs'.cells
      rcases hs'.kind with ⟨e', hk'⟩ | hk' <;> simp [Builtin.append_, run_underlying ht, run_underlying hk', sizeOf, typeInfo, hi, hs'.len, hcells]
    · exact new none 0 (Nat.le_refl _) (by simp; omega) rfl rfl
  · have hcell : ∀ j u, (byteCells s)[j]? = some u → w.cell? ((⟨g, 0, none⟩ : Addr).add j) = some u := by
      intro j u hj
      rw [add_lit, cell_at hg, Nat.zero_add]
      rw [← htk, List.getElem?_take] at hj
      split at hj
      · simpa using hj
      · cases hj
    by_cases hroom : s.size + r.size ≤ cap
    · have hrun := run_append_room_src w t tx ty e i ht hi g 0 s.size cap yv r.size (byteCells r) hs' hroom
        (fun j hj => by rw [byteCells_length] at hj; rw [cell_at hg, Array.getElem?_eq_getElem (by rw [hsz]; omega)]; rfl)
        (fun j hj => by
          simp only [World.frozen?, hg, Bool.and_eq_false_iff, decide_eq_false_iff_not, hsz]
          omega)
      rw [hsz] at hrun
      simp only [Nat.mul_one, Nat.zero_add] at hrun
      have hb := setCells_heap g e (0, fz) (byteCells r) s.size w cur hg (by rw [byteCells_length]; omega)
      have hsm := setCells_same g (byteCells r) s.size w
      refine ⟨_, _, hrun, .inr ⟨g, cap, _, fz, by rw [hsa], hb, by omega, by omega, by omega, hcm, ?_, ?_⟩, Turned.setCells g s.size (byteCells r) (.inl rfl), fun k hk => .inl hk⟩
      · simp [splice_len _ _ _ (show s.size + (byteCells r).length ≤ cur.toList.length by rw [byteCells_length]; simp; omega), hcs]
      · simp only [splice]
        rw [htk, ← List.append_assoc, ← bcells_app]
        have : (byteCells (s ++ r)).length = (s ++ r).size := byteCells_length _
        rw [← this]
        exact List.take_left
    · refine new _ cap hsc (by omega) ?_ rfl
      exact run_firstCells_some w.drew i.size s.size _ _ _ _ (by rw [hsz, byteCells_length]; omega) (by simpa using hcell)

end

end Go.St
