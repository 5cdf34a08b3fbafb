/- From what a row reads (arguments, package-level variables) to the machine's values. -/
import Derived.Test.YtnjpbbiolngfkaaDoorStS19
import Derived.Lib.LaidTab
namespace Go.St
open Go.RowKit
set_option linter.unusedVariables false
set_option linter.unusedSimpArgs false

/-- A pointer to so many cells, a slice of so many elements. -/
def ptrAV (m : List AV) : AV := match m with
  | [] => .any
  | m => .ip m
def rowAV (ms : List (List AV)) : AV := if ms.length = 0 ∨ ms.flatten.length ≠ 0 then .is ms.flatten ms.length .no else .any

/-- What a datum is to the machine. -/
def avD (A : AProg) {H : Type} : Nat → TypeId → DataW H → Option (List AV)
  | 0, _, _ => none
  | n + 1, t, d => (assoc t A.tab).bind fun td => match td.k, d with
    | .bool, .lit (.bool b) => some [.bool b]
    | .int k, .lit (.int k' x) => if k' = k ∧ (Lit.int k x).wf = true then some [.int k x] else none
    | .str, .lit (.string s) => if s.length ≤ maxLen then some [.str ⟨s.toArray⟩] else none
    | .ptr _, .nil => some [.nilp]
    | .ptr e, .ptr d => (avD A n e d).map fun m => [ptrAV m]
    | .slice _, .nil => some [.nils]
    | .slice e, .slice ds _ => if ds.length ≤ maxLen then (ds.mapM (avD A n e)).map fun ms => [rowAV ms] else none
    | .struct fs, .agg ds => if fs.length = ds.length then ((fs.zip ds).mapM fun x => avD A n x.1.2 x.2).map List.flatten else none
    | .arr k e, .agg ds => if ds.length = k then (ds.mapM (avD A n e)).map List.flatten else none
    | .iface _, .nil => some [.nili]
    | .map _ _, .nil => some [.nilm]
    | .func, .nil => some [.nilfn]
    | _, _ => some [.any]

/-- The fields stand one behind the other. -/
def offB (A : AProg) (ts : List TypeId) : Nat → List (Nat × TypeId) → Nat → Bool
  | o, [], n => o == n
  | o, (o', t) :: r, n => o == o' && ts.contains t && match assoc t A.tab with
    | some td => offB A ts (o + td.size) r n
    | none => false

/-- What these types lead to is among them. -/
def closedOn (A : AProg) (ts : List TypeId) : Bool := ts.all fun t => match assoc t A.tab with
  | none => false
  | some td => match td.k with
    | .ptr e | .slice e => ts.contains e
    | .arr n e => ts.contains e && (match assoc e A.tab with | some te => td.size == n * te.size | none => false)
    | .struct fs => offB A ts 0 fs td.size
    | _ => true

theorem cell?_some {w : World} {a : Addr} {v : Value} (h : w.cell? a = some v) : ∃ arr t fr, w.heap[a.block]? = some (.cells arr t fr) ∧ a.spot = none ∧ arr[a.off]? = some v := by
  unfold World.cell? at h
  split at h
  · rename_i c t fr hc
    split at h
    · cases h
    · rename_i hs
      exact ⟨c, t, fr, hc, by simpa using hs, h⟩
  · cases h

theorem cells?_at {w : World} {base n : Nat} {a : Addr} {cs : List Value} (h : w.cells? base a n = some cs) : cs.length = n ∧ ∀ k v, cs[k]? = some v → w.cell? (a.add k) = some v := by
  unfold World.cells? at h
  split at h
  · have hl := Lib.mapM_length h
    simp only [List.length_range] at hl
    refine ⟨hl, fun k v hv => ?_⟩
    have hk : k < n := by rw [← hl]; exact (List.getElem?_eq_some_iff.1 hv).1
    obtain ⟨b, hb, hf⟩ := Lib.mapM_at h k k (by simp [hk])
    rw [hb] at hv; cases hv
    exact hf
  · cases h

theorem mapM_of_get {α β : Type} {f : α → Option β} (P : Nat → β → Prop) : ∀ (l : List α) (m : Nat), (∀ i a, l[i]? = some a → ∃ b, f a = some b ∧ P (m + i) b) → ∃ r, l.mapM f = some r ∧ r.length = l.length ∧ ∀ i b, r[i]? = some b → P (m + i) b := by
  intro l
  induction l with
  | nil => exact fun m _ => ⟨[], rfl, rfl, fun i b h => by simp at h⟩
  | cons x l ih =>
    intro m h
    obtain ⟨b, hb, hP⟩ := h 0 x rfl
    obtain ⟨r, hr, hl, hp⟩ := ih (m + 1) (fun i a ha => by
      obtain ⟨b, h1, h2⟩ := h (i + 1) a (by simpa using ha)
      exact ⟨b, h1, by rw [show m + 1 + i = m + (i + 1) by omega]; exact h2⟩)
    refine ⟨b :: r, by simp [hb, hr], by simp [hl], fun i b' hb' => ?_⟩
    cases i with
    | zero => simp only [List.getElem?_cons_zero, Option.some.injEq] at hb'; subst hb'; exact hP
    | succ i =>
      have := hp i b' (by simpa using hb')
      rwa [show m + (i + 1) = m + 1 + i by omega]

theorem flat_len {s : Nat} : ∀ {ms : List (List AV)}, (∀ (i : Nat) (m : List AV), ms[i]? = some m → m.length = s) → ms.flatten.length = ms.length * s := by
  intro ms
  induction ms with
  | nil => simp
  | cons m r ih =>
    intro h
    have h0 := h 0 m rfl
    have := ih (fun i m hm => h (i + 1) m (by simpa using hm))
    simp only [List.flatten_cons, List.length_append, List.length_cons, h0, this, Nat.add_mul, Nat.one_mul]
    omega

/-- Equal pieces, one behind the other. -/
theorem flat_at {s : Nat} {Q : Nat → AV → Prop} : ∀ {ms : List (List AV)} {o : Nat}, (∀ (i : Nat) (m : List AV), ms[i]? = some m → m.length = s ∧ ∀ (k : Nat) (a : AV), m[k]? = some a → Q (o + i * s + k) a) → ∀ (j : Nat) (a : AV), ms.flatten[j]? = some a → Q (o + j) a := by
  intro ms
  induction ms with
  | nil => intro o _ j a ha; simp at ha
  | cons m r ih =>
    intro o h j a ha
    obtain ⟨h0, h1⟩ := h 0 m rfl
    simp only [List.flatten_cons] at ha
    by_cases hj : j < m.length
    · rw [List.getElem?_append_left hj] at ha
      have := h1 j a ha
      simpa using this
    · rw [List.getElem?_append_right (by omega)] at ha
      have := ih (o := o + s) (fun i m' hm' => ?_) (j - m.length) a ha
      · rwa [show o + s + (j - m.length) = o + j by omega] at this
      · obtain ⟨h2, h3⟩ := h (i + 1) m' (by simpa using hm')
        refine ⟨h2, fun k a ha => ?_⟩
        have := h3 k a ha
        rwa [show o + (i + 1) * s + k = o + s + i * s + k by rw [Nat.add_mul, Nat.one_mul]; omega] at this

theorem start_H {W : World} {b : Nat} {arr : Array Value} {t : TypeId} {fr : Nat × Nat} (h : W.heap[b]? = some (.cells arr t fr)) : (Gh.start W).H b = some arr.toList := by simp [Gh.start, h]

theorem VRs.flat {G : Gh} : ∀ {ms : List (List AV)} {vss : List (List Value)}, ms.length = vss.length → (∀ (i : Nat) (m : List AV) (vs : List Value), ms[i]? = some m → vss[i]? = some vs → VRs G m vs) → VRs G ms.flatten vss.flatten := by
  intro ms
  induction ms with
  | nil => intro vss hl _; cases vss with
    | nil => exact VRs.nil G
    | cons => simp at hl
  | cons m r ih =>
    intro vss hl h
    cases vss with
    | nil => simp at hl
    | cons vs rs => exact (h 0 m vs rfl rfl).append (ih (by simpa using hl) fun i m' vs' hm hv => h (i + 1) m' vs' (by simpa using hm) (by simpa using hv))

/-- A list cut at the fields' places. -/
theorem offB_cut {A : AProg} {ts : List TypeId} (sz : TypeId → Nat) (hsz : ∀ t td, t ∈ ts → assoc t A.tab = some td → sz t = td.size) {cs : List Value} : ∀ {fs : List (Nat × TypeId)} {o n : Nat}, offB A ts o fs n = true → cs.length = n →
    (fs.map fun f => (cs.drop f.1).take (sz f.2)).flatten = cs.drop o ∧ (∀ f ∈ fs, f.2 ∈ ts) ∧ o ≤ n := by
  intro fs
  induction fs with
  | nil =>
    intro o n h hl
    simp only [offB, beq_iff_eq] at h
    refine ⟨?_, by simp, by omega⟩
    rw [List.drop_eq_nil_of_le (by omega)]
    rfl
  | cons f r ih =>
    obtain ⟨o', t⟩ := f
    intro o n h hl
    simp only [offB, Bool.and_eq_true, beq_iff_eq] at h
    obtain ⟨⟨rfl, hm⟩, h⟩ := h
    have hm' : t ∈ ts := by simpa using hm
    cases ht : assoc t A.tab with
    | none => simp [ht] at h
    | some td =>
      simp only [ht] at h
      obtain ⟨h1, h2, h3⟩ := ih h hl
      refine ⟨?_, fun f hf => ?_, by omega⟩
      · simp only [List.map_cons, List.flatten_cons, h1, hsz t td hm' ht]
        rw [← List.drop_drop]
        exact List.take_append_drop _ _
      · rcases List.mem_cons.1 hf with rfl | hf
        · exact hm'
        · exact h2 f hf

section
variable {P : Program} {A : AProg}

theorem closed_of {ts : List TypeId} (hc : closedOn A ts = true) {t : TypeId} (ht : t ∈ ts) : ∃ td, assoc t A.tab = some td ∧ match td.k with
    | .ptr e | .slice e => e ∈ ts
    | .arr n e => e ∈ ts ∧ ∃ te, assoc e A.tab = some te ∧ td.size = n * te.size
    | .struct fs => offB A ts 0 fs td.size = true
    | _ => True := by
  unfold closedOn at hc
  rw [List.all_eq_true] at hc
  have := hc t ht
  cases h : assoc t A.tab with
  | none => simp [h] at this
  | some td =>
    refine ⟨td, rfl, ?_⟩
    simp only [h] at this
    split at this
    · simpa using this
    · simpa using this
    · rename_i n e hk
      simp only [Bool.and_eq_true] at this
      refine ⟨by simpa using this.1, ?_⟩
      cases he : assoc e A.tab with
      | none => simp [he] at this
      | some te => simp only [he, beq_iff_eq] at this; exact ⟨te, rfl, this.2⟩
    · exact this
    · trivial

theorem tab_size (hT : TabOk P A) {t : TypeId} {td : TD} (h : assoc t A.tab = some td) : P.cellsOf t = td.size := by
  obtain ⟨i, d, hi, _, hs, _⟩ := (hT t td h).ok
  simp [Program.cellsOf, hi, hs]

theorem fieldsB_map : ∀ {fs : List (Nat × TypeId)} {l : List Field}, fieldsB fs l = true → fs = l.map fun f => (f.offset, f.type) := by
  intro fs
  induction fs with
  | nil => intro l h; cases l with
    | nil => rfl
    | cons => simp [fieldsB] at h
  | cons x r ih =>
    intro l h
    obtain ⟨o, t⟩ := x
    cases l with
    | nil => simp [fieldsB] at h
    | cons f l =>
      simp only [fieldsB, Bool.and_eq_true, beq_iff_eq] at h
      rw [List.map_cons, ← ih h.2, h.1.1, h.1.2]

/-- ONE CELL. -/
theorem VRs.single {G : Gh} {a : AV} {v : Value} (h : VR G a v) (h1 : v.oneCell' = true) : VRs G [a] [v] ∧ ∀ v' ∈ [v], v'.oneCell' = true := ⟨VRs.one h, by simpa using h1⟩

set_option maxHeartbeats 4000000 in
/-- WHAT A ROW READS IS WHAT THE MACHINE HOLDS. -/
theorem trod_av (hT : TabOk P A) {ts : List TypeId} (hc : closedOn A ts = true) {H : Type} {enc : TypeId × Value → H} {w : World} {base : Nat} {sp : Nat → Bool} {held : Bool} :
    ∀ (n : Nat) (t : TypeId) (cs : List Value) (d : DataW H) (p : List MemPlace), t ∈ ts → DataW.trod enc P w base sp held n t cs = some (d, p) →
      ∃ l, avD A n t d = some l ∧ VRs (Gh.start w) l cs ∧ ∀ v ∈ cs, v.oneCell' = true := by
  intro n
  induction n with
  | zero => intro t cs d p _ h; simp [DataW.trod] at h
  | succ n ih =>
    intro t cs d p ht h
    obtain ⟨td, htd, hcl⟩ := closed_of hc ht
    obtain ⟨i, ds, hi, hd, hs, _, hk, _⟩ := (hT t td htd).ok
    have hsz := tab_size hT htd
    simp only [DataW.trod, hd] at h
    simp only [avD, htd, Option.bind_some]
    split at h
    · -- bool
      rename_i b he
      cases he
      cases h
      cases hk' : td.k <;> simp [hk', kindB] at hk
      exact ⟨_, rfl, VRs.single (.bool b) rfl⟩
    · rename_i k k' m he
      cases he
      split at h
      · rename_i hw
        cases h
        cases hk' : td.k <;> simp [hk', kindB] at hk
        obtain ⟨rfl, hw⟩ := hw
        subst hk
        simp only [hw, and_self, if_true]
        exact ⟨_, rfl, VRs.single (.int _ _) rfl⟩
      · cases h
    · rename_i k k' b he
      cases he
      split at h
      · cases h
        cases hk' : td.k <;> simp [hk', kindB] at hk
        exact ⟨_, rfl, VRs.single (.any _) rfl⟩
      · cases h
    · rename_i s he
      cases he
      split at h
      · rename_i hl
        cases h
        cases hk' : td.k <;> simp [hk', kindB] at hk
        have hl' : s.data.toList.length ≤ maxLen := by simpa using hl
        simp only [hl', if_true]
        exact ⟨_, rfl, VRs.single (by simpa using VR.str s) rfl⟩
      · cases h
    · rename_i e he
      cases he
      cases h
      cases hk' : td.k <;> simp [hk', kindB] at hk
      exact ⟨_, rfl, VRs.single .nilp rfl⟩
    · -- a pointer
      rename_i e a he
      cases he
      cases hk' : td.k <;> simp [hk', kindB] at hk
      rename_i e'
      subst hk
      rw [hk'] at hcl
      simp only at hcl
      obtain ⟨x, hx, hxe⟩ := Option.map_eq_some_iff.1 h
      obtain ⟨cs', hcs, htr⟩ := Option.bind_eq_some_iff.1 hx
      cases hxe
      obtain ⟨m, hm, hv, h1⟩ := ih e' cs' x.1 x.2 hcl htr
      obtain ⟨hlen, hcell⟩ := cells?_at hcs
      simp only [hm, Option.map_some]
      refine ⟨_, rfl, VRs.single ?_ rfl⟩
      cases m with
      | nil => exact .any _
      | cons m0 mr =>
        obtain ⟨v0, hv0, _⟩ := hv.get (j := 0) (a := m0) rfl
        obtain ⟨arr, tt, fr, hb, hsp, _⟩ := cell?_some (hcell 0 v0 hv0)
        have ha : a = ⟨a.block, a.off, none⟩ := by
          obtain ⟨ab, ao, asp⟩ := a
          simp [Addr.add] at hsp
          simp [hsp]
        have hb' : w.heap[a.block]? = some (.cells arr tt fr) := hb
        have hget : ∀ k v, cs'[k]? = some v → arr[a.off + k]? = some v := by
          intro k v hk2
          have := hcell k v hk2
          rw [ha] at this
          rw [add_lit, cell_at hb'] at this
          exact this
        rw [ha]
        refine .ip _ a.block a.off arr.toList (start_H hb') ?_ fun j x v hj hv2 => ?_
        · have hlast : (m0 :: mr).length - 1 < cs'.length := by rw [← hv.len]; simp
          have := hget _ _ (List.getElem?_eq_getElem hlast)
          have := (Array.getElem?_eq_some_iff.1 this).1
          simp at this ⊢
          omega
        · obtain ⟨v', hv', hvr⟩ := hv.get hj
          have := hget j v' hv'
          rw [Array.getElem?_toList] at hv2
          rw [this] at hv2
          cases hv2
          exact hvr
    · rename_i e he
      cases he
      cases h
      cases hk' : td.k <;> simp [hk', kindB] at hk
      exact ⟨_, rfl, VRs.single .nils rfl⟩
    · -- a slice
      rename_i e a len cap he
      cases he
      cases hk' : td.k <;> simp [hk', kindB] at hk
      rename_i e'
      subst hk
      rw [hk'] at hcl
      simp only at hcl
      split at h
      · rename_i hcap
        obtain ⟨els, hels, h⟩ := Option.bind_eq_some_iff.1 h
        obtain ⟨rest, _, h⟩ := Option.map_eq_some_iff.1 h
        cases h
        have hll : els.length = len := by have := Lib.mapM_length hels; simpa using this
        simp only [List.length_map, hll, Nat.le_trans hcap.2.1 hcap.2.2, if_true]
        obtain ⟨te, hte, _⟩ := closed_of hc hcl
        have hes := tab_size hT hte
        have key : ∀ i x, els[i]? = some x → ∃ m, avD A n e' x.1 = some m ∧ ∃ cs', w.cells? base (a.add (i * P.cellsOf e')) (P.cellsOf e') = some cs' ∧ VRs (Gh.start w) m cs' ∧ ∀ v ∈ cs', v.oneCell' = true := by
          intro i x hx
          have hil : i < len := by rw [← hll]; exact (List.getElem?_eq_some_iff.1 hx).1
          obtain ⟨b, hb, hf⟩ := Lib.mapM_at hels i i (by simp [hil])
          rw [hb] at hx; cases hx
          obtain ⟨cs', hcs, htr⟩ := Option.bind_eq_some_iff.1 hf
          obtain ⟨m, h1, h2, h3⟩ := ih e' cs' _ _ hcl htr
          exact ⟨m, h1, cs', hcs, h2, h3⟩
        obtain ⟨ms, hms, hml, hmp⟩ := mapM_of_get (f := avD A n e') (fun i m => ∃ cs', w.cells? base (a.add (i * P.cellsOf e')) (P.cellsOf e') = some cs' ∧ VRs (Gh.start w) m cs' ∧ ∀ v ∈ cs', v.oneCell' = true) (els.map (·.1)) 0 (fun i d hd => by
          rw [List.getElem?_map] at hd
          obtain ⟨x, hx, rfl⟩ := Option.map_eq_some_iff.1 hd
          obtain ⟨m, h1, h2⟩ := key i x hx
          exact ⟨m, h1, by simpa using h2⟩)
        simp only [Nat.zero_add] at hmp
        have hmlen : ms.length = len := by rw [hml]; simp [hll]
        simp only [hms, Option.map_some]
        refine ⟨_, rfl, VRs.single ?_ rfl⟩
        have hfl : ms.flatten.length = ms.length * P.cellsOf e' := flat_len fun i m hm => by
          obtain ⟨cs', hcs, hv, _⟩ := hmp i m hm
          rw [hv.len, (cells?_at hcs).1]
        unfold rowAV
        split
        · rename_i hor
          by_cases h0 : ms.length = 0
          · have : ms = [] := List.eq_nil_of_length_eq_zero h0
            subst this
            simp only [List.length_nil] at hmlen
            subst hmlen
            exact .is0 a cap
          · have hpos : 0 < P.cellsOf e' := by
              rcases Nat.eq_zero_or_pos (P.cellsOf e') with hz | hz
              · rw [hz, Nat.mul_zero] at hfl
                rcases hor with hor | hor
                · exact absurd hor h0
                · exact absurd hfl hor
              · exact hz
            have hget : ∀ (i : Nat) (m : List AV) (k : Nat), ms[i]? = some m → k < m.length → ∃ v, VRs (Gh.start w) m ((w.cells? base (a.add (i * P.cellsOf e')) (P.cellsOf e')).getD []) ∧ ((w.cells? base (a.add (i * P.cellsOf e')) (P.cellsOf e')).getD [])[k]? = some v ∧ v.oneCell' = true ∧ w.cell? ((a.add (i * P.cellsOf e')).add k) = some v := by
              intro i m k hm hk2
              obtain ⟨cs', hcs, hv, h1⟩ := hmp i m hm
              rw [hcs]
              simp only [Option.getD_some]
              have hkl : k < cs'.length := by rw [← hv.len]; exact hk2
              exact ⟨cs'[k], hv, List.getElem?_eq_getElem hkl, h1 _ (List.getElem_mem hkl), (cells?_at hcs).2 k _ (List.getElem?_eq_getElem hkl)⟩
            have hm0 : 0 < ms.length := by omega
            have hmlen0 : ∀ (i : Nat) (m : List AV), ms[i]? = some m → m.length = P.cellsOf e' := fun i m hm => by
              obtain ⟨cs', hcs, hv, _⟩ := hmp i m hm
              rw [hv.len, (cells?_at hcs).1]
            obtain ⟨v0, _, _, _, hc0⟩ := hget 0 ms[0] 0 (List.getElem?_eq_getElem hm0) (by rw [hmlen0 0 _ (List.getElem?_eq_getElem hm0)]; exact hpos)
            obtain ⟨arr, tt, fr, hb, hsp, _⟩ := cell?_some hc0
            have ha : a = ⟨a.block, a.off, none⟩ := by
              obtain ⟨ab, ao, asp⟩ := a
              simp [Addr.add] at hsp
              simp [hsp]
            have hb' : w.heap[a.block]? = some (.cells arr tt fr) := by rw [← hb]; simp [Addr.add]; done
            have hcell : ∀ i k v, w.cell? ((a.add (i * P.cellsOf e')).add k) = some v → arr[a.off + i * P.cellsOf e' + k]? = some v := by
              intro i k v hv
              rw [ha] at hv
              rw [add_lit, add_lit, cell_at hb'] at hv
              exact hv
            rw [ha, ← hmlen]
            have hQ : ∀ (j : Nat) (x : AV), ms.flatten[j]? = some x → ∃ v, arr[a.off + j]? = some v ∧ VR (Gh.start w) x v ∧ v.oneCell' = true := by
              refine flat_at (s := P.cellsOf e') (Q := fun j x => ∃ v, arr[j]? = some v ∧ VR (Gh.start w) x v ∧ v.oneCell' = true) fun i m hm => ⟨hmlen0 i m hm, fun k x hx => ?_⟩
              obtain ⟨v, h1, h2, h3, h4⟩ := hget i m k hm (List.getElem?_eq_some_iff.1 hx).1
              exact ⟨v, hcell i k v h4, h1.at_ k x v hx h2, h3⟩
            refine .is _ _ .no a.block a.off cap arr.toList (start_H hb') ?_ (by rw [hmlen]; exact hcap.2.1) trivial (fun j x v hj hv2 => ?_) (fun j v hj hv2 => ?_)
            · have hlast : ms.flatten.length - 1 < ms.flatten.length := by rw [hfl]; have := Nat.mul_pos hm0 hpos; omega
              obtain ⟨v, h1, _⟩ := hQ _ _ (List.getElem?_eq_getElem hlast)
              have := (Array.getElem?_eq_some_iff.1 h1).1
              simp only [Array.length_toList]
              omega
            · obtain ⟨v', h1, h2, _⟩ := hQ j x hj
              rw [Array.getElem?_toList, h1] at hv2
              cases hv2
              exact h2
            · obtain ⟨v', h1, _, h3⟩ := hQ j _ (List.getElem?_eq_getElem hj)
              rw [Array.getElem?_toList, h1] at hv2
              cases hv2
              exact h3
        · exact .any _
      · cases h
    · -- a struct
      rename_i cs _ _ fs he
      cases he
      cases hk' : td.k <;> simp [hk', kindB] at hk
      rename_i fs'
      rw [hk'] at hcl
      simp only at hcl
      split at h
      · rename_i hlen
        obtain ⟨xs, hxs, h⟩ := Option.map_eq_some_iff.1 h
        cases h
        have hfs := fieldsB_map hk
        have hxl := Lib.mapM_length hxs
        obtain ⟨hcut, hmem, _⟩ := offB_cut (A := A) (ts := ts) P.cellsOf (fun t td _ h => tab_size hT h) (cs := cs) hcl (by rw [hlen, hsz])
        have hfl : fs'.length = (xs.map (·.1)).length := by rw [hfs, List.length_map, List.length_map, hxl]
        simp only [hfl, if_true]
        obtain ⟨ms, hms, hml, hmp⟩ := mapM_of_get (f := fun x : (Nat × TypeId) × DataW H => avD A n x.1.2 x.2) (fun i m => ∃ f, fs'[i]? = some f ∧ VRs (Gh.start w) m ((cs.drop f.1).take (P.cellsOf f.2)) ∧ ∀ v ∈ (cs.drop f.1).take (P.cellsOf f.2), v.oneCell' = true) (fs'.zip (xs.map (·.1))) 0 (fun i x hx => by
          rw [List.getElem?_zip_eq_some] at hx
          obtain ⟨hx1, hx2⟩ := hx
          rw [List.getElem?_map] at hx2
          obtain ⟨y, hy, hy2⟩ := Option.map_eq_some_iff.1 hx2
          rw [hfs, List.getElem?_map] at hx1
          obtain ⟨f, hf, hf2⟩ := Option.map_eq_some_iff.1 hx1
          obtain ⟨b, hb, htr⟩ := Lib.mapM_at hxs i f hf
          rw [hb] at hy; cases hy
          have hft : f.type ∈ ts := hmem (f.offset, f.type) (by rw [hfs]; exact List.mem_map.2 ⟨f, List.mem_of_getElem? hf, rfl⟩)
          obtain ⟨m, h1, h2, h3⟩ := ih f.type _ _ _ hft htr
          rw [← hy2, ← hf2]
          refine ⟨m, h1, (f.offset, f.type), ?_, h2, h3⟩
          rw [hfs, List.getElem?_map, Nat.zero_add, hf]
          rfl)
        simp only [Nat.zero_add] at hmp
        simp only [hms, Option.map_some]
        have hmlen : ms.length = fs'.length := by
          rw [hml, List.length_zip, ← hfl, Nat.min_self]
        refine ⟨_, rfl, ?_, ?_⟩
        · rw [← List.drop_zero (l := cs), ← hcut]
          refine VRs.flat (by rw [hmlen, List.length_map]) fun i m vs hm hvs => ?_
          obtain ⟨f, hf, hv, _⟩ := hmp i m hm
          rw [List.getElem?_map, hf] at hvs
          cases hvs
          exact hv
        · intro v hv
          rw [← List.drop_zero (l := cs), ← hcut] at hv
          obtain ⟨l, hl, hv⟩ := List.mem_flatten.1 hv
          obtain ⟨f, hf, rfl⟩ := List.mem_map.1 hl
          obtain ⟨i, hi', hfi⟩ := List.getElem_of_mem hf
          have him : i < ms.length := by rw [hmlen]; exact hi'
          obtain ⟨f', hf', _, h1⟩ := hmp i _ (List.getElem?_eq_getElem him)
          rw [List.getElem?_eq_getElem hi', hfi] at hf'
          cases hf'
          exact h1 v hv
      · cases h
    · -- an array
      rename_i cs _ _ k e he
      cases he
      cases hk' : td.k <;> simp [hk', kindB] at hk
      obtain ⟨rfl, rfl⟩ := hk
      rename_i k e
      rw [hk'] at hcl
      simp only at hcl
      obtain ⟨hem, te, hte, hts⟩ := hcl
      have hes := tab_size hT hte
      split at h
      · rename_i hlen
        obtain ⟨xs, hxs, h⟩ := Option.map_eq_some_iff.1 h
        cases h
        have hxl := Lib.mapM_length hxs
        simp only [List.length_range] at hxl
        simp only [List.length_map, hxl, if_true]
        obtain ⟨ms, hms, hml, hmp⟩ := mapM_of_get (f := avD A n e) (fun i m => VRs (Gh.start w) m ((cs.drop (i * P.cellsOf e)).take (P.cellsOf e)) ∧ ∀ v ∈ (cs.drop (i * P.cellsOf e)).take (P.cellsOf e), v.oneCell' = true) (xs.map (·.1)) 0 (fun i x hx => by
          rw [List.getElem?_map] at hx
          obtain ⟨y, hy, rfl⟩ := Option.map_eq_some_iff.1 hx
          have hik : i < k := by rw [← hxl]; exact (List.getElem?_eq_some_iff.1 hy).1
          obtain ⟨b, hb, htr⟩ := Lib.mapM_at hxs i i (by simp [hik])
          rw [hb] at hy; cases hy
          obtain ⟨m, h1, h2, h3⟩ := ih e _ _ _ hem htr
          exact ⟨m, h1, by simpa using h2, by simpa using h3⟩)
        simp only [Nat.zero_add] at hmp
        simp only [hms, Option.map_some]
        have hmlen : ms.length = k := by rw [hml, List.length_map, hxl]
        have hcl' : cs.length = k * P.cellsOf e := by rw [hlen, hsz, hts, hes]
        have hcut : ∀ (j : Nat), ((List.range' j (k - j)).map fun i => (cs.drop (i * P.cellsOf e)).take (P.cellsOf e)).flatten = cs.drop (j * P.cellsOf e) := by
          intro j
          induction hj : k - j generalizing j with
          | zero =>
            rw [List.drop_eq_nil_of_le (by rw [hcl']; exact Nat.mul_le_mul_right _ (by omega))]
            rfl
          | succ q ihq =>
            rw [List.range'_succ, List.map_cons, List.flatten_cons, ihq (j + 1) (by omega), Nat.add_mul, Nat.one_mul, ← List.drop_drop]
            exact List.take_append_drop _ _
        have hcut0 := hcut 0
        simp only [Nat.zero_mul, List.drop_zero, Nat.sub_zero] at hcut0
        refine ⟨_, rfl, ?_, ?_⟩
        · rw [← hcut0]
          refine VRs.flat (by simp [hmlen]) fun i m vs hm hvs => ?_
          rw [List.getElem?_map] at hvs
          obtain ⟨i', hi', rfl⟩ := Option.map_eq_some_iff.1 hvs
          rw [List.getElem?_range'] at hi'
          · cases hi'
            simpa using (hmp i m hm).1
          · rw [← hmlen]; exact (List.getElem?_eq_some_iff.1 hm).1
        · intro v hv
          rw [← hcut0] at hv
          obtain ⟨l, hl, hv⟩ := List.mem_flatten.1 hv
          obtain ⟨i, hi', rfl⟩ := List.mem_map.1 hl
          have hik : i < ms.length := by rw [hmlen]; simpa using hi'
          exact (hmp i _ (List.getElem?_eq_getElem hik)).2 v hv
      · cases h
    · rename_i he
      cases he
      cases h
      cases hk' : td.k <;> simp [hk', kindB] at hk
      exact ⟨_, rfl, VRs.single .nili rfl⟩
    · rename_i he
      cases he
      cases hk' : td.k <;> simp [hk', kindB] at hk
      split at h
      · cases h; exact ⟨_, rfl, VRs.single (.any _) rfl⟩
      · obtain ⟨x, _, hx⟩ := Option.map_eq_some_iff.1 h
        cases hx
        exact ⟨_, rfl, VRs.single (.any _) rfl⟩
      · cases h
    · rename_i he
      cases he
      cases h
      cases hk' : td.k <;> simp [hk', kindB] at hk
      exact ⟨_, rfl, VRs.single .nilm rfl⟩
    · rename_i he
      cases he
      cases hk' : td.k <;> simp [hk', kindB] at hk
      split at h
      · split at h
        · obtain ⟨x, _, hx⟩ := Option.bind_eq_some_iff.1 h
          split at hx
          · cases hx; exact ⟨_, rfl, VRs.single (.any _) rfl⟩
          · cases hx
        · cases h
      · cases h
    · rename_i he
      cases he
      cases h
      cases hk' : td.k <;> simp [hk', kindB] at hk
      exact ⟨_, rfl, VRs.single .nilfn rfl⟩
    · rename_i he
      cases he
      cases h
      cases hk' : td.k <;> simp [hk', kindB] at hk
      exact ⟨_, rfl, VRs.single (.any _) rfl⟩
    · rename_i he
      cases he
      cases h
      cases hk' : td.k <;> simp [hk', kindB] at hk
      exact ⟨_, rfl, VRs.single (.any _) rfl⟩
    · rename_i he
      cases he
      split at h
      · cases h
        cases hk' : td.k <;> simp [hk', kindB] at hk
        exact ⟨_, rfl, VRs.single (.any _) rfl⟩
      · cases h
    · rename_i he
      cases he
      split at h
      · cases h
        cases hk' : td.k <;> simp [hk', kindB] at hk
        exact ⟨_, rfl, VRs.single (.any _) rfl⟩
      · cases h
    · rename_i he
      cases he
      split at h
      · cases h
        cases hk' : td.k <;> simp [hk', kindB] at hk
        exact ⟨_, rfl, VRs.single (.any _) rfl⟩
      · cases h
    · cases h

/-! ### Package-level variables -/
theorem mapM_mono {α β : Type} {f g : α → Option β} (h : ∀ a b, f a = some b → g a = some b) : ∀ {l : List α} {r : List β}, l.mapM f = some r → l.mapM g = some r := by
  intro l
  induction l with
  | nil => intro r hr; exact hr
  | cons x l ih =>
    intro r hr
    simp only [List.mapM_cons, Option.bind_eq_bind, Option.bind_eq_some_iff, Option.pure_def, Option.some.injEq] at hr ⊢
    obtain ⟨b, hb, r', hr', rfl⟩ := hr
    exact ⟨b, h x b hb, r', ih hr', rfl⟩

theorem avD_up {H : Type} : ∀ (n : Nat) (t : TypeId) (d : DataW H) (l : List AV), avD A n t d = some l → avD A (n + 1) t d = some l := by
  intro n
  induction n with
  | zero => intro t d l h; simp [avD] at h
  | succ n ih =>
    intro t d l h
    rw [avD] at h ⊢
    cases htd : assoc t A.tab with
    | none => simp [htd] at h
    | some td =>
      simp only [htd, Option.bind_some] at h ⊢
      split at h
      · exact h
      · exact h
      · exact h
      · exact h
      · obtain ⟨m, hm, rfl⟩ := Option.map_eq_some_iff.1 h
        simp only [ih _ _ _ hm, Option.map_some]
      · exact h
      · split at h
        · rename_i hl
          obtain ⟨m, hm, rfl⟩ := Option.map_eq_some_iff.1 h
          simp only [hl, if_true, mapM_mono (fun a b => ih _ a b) hm, Option.map_some]
        · cases h
      · split at h
        · rename_i hl
          obtain ⟨m, hm, rfl⟩ := Option.map_eq_some_iff.1 h
          simp only [hl, if_true]
          rw [mapM_mono (fun a b => ih a.1.2 a.2 b) hm]
          rfl
        · cases h
      · split at h
        · rename_i hl
          obtain ⟨m, hm, rfl⟩ := Option.map_eq_some_iff.1 h
          simp only [hl, if_true, mapM_mono (fun a b => ih _ a b) hm, Option.map_some]
        · cases h
      · exact h
      · exact h
      · exact h
      · exact h
theorem avD_ups {H : Type} {n m : Nat} (hnm : n ≤ m) {t : TypeId} {d : DataW H} {l : List AV} (h : avD A n t d = some l) : avD A m t d = some l := by
  induction hnm with
  | refl => exact h
  | step _ ih => exact avD_up _ _ _ _ ih
theorem avD_det {H : Type} {n m : Nat} {t : TypeId} {d : DataW H} {l l' : List AV} (h : avD A n t d = some l) (h' : avD A m t d = some l') : l = l' := by
  have a := avD_ups (Nat.le_max_left n m) h
  have b := avD_ups (Nat.le_max_right n m) h'
  rw [a] at b
  exact Option.some.inj b

theorem laid_mem {w : World} {name : String} {d : DataW Unit} : ∀ {laid : List (String × DataW Unit)} {ps : List MemPlace}, DataW.LaidVars P w laid ps → (name, d) ∈ laid →
    ∃ g t cs fuel p, P.globalNamed name = some g ∧ (P.globals[g]?).map (·.type) = some t ∧ w.var? P name = some cs ∧ DataW.trod (fun _ => ()) P w 0 (fun _ => true) false fuel t cs.toList = some (d, p) := by
  intro laid
  induction laid with
  | nil => intro ps _ h; simp at h
  | cons x r ih =>
    obtain ⟨n', d'⟩ := x
    intro ps h hm
    obtain ⟨g, t, cs, fuel, p, q, h1, h2, h3, h4, h5, _⟩ := h
    rcases List.mem_cons.1 hm with hm | hm
    · cases hm; exact ⟨g, t, cs, fuel, p, h1, h2, h3, h4⟩
    · exact ih h5 hm

/-- A package-level variable that the row lists. -/
theorem glob_of (hT : TabOk P A) {ts : List TypeId} (hc : closedOn A ts = true) {laid : List (String × DataW Unit)} {W : World} (hL : laidMet P laid W) {name : String} {d : DataW Unit} (hm : (name, d) ∈ laid) {g t N : Nat} {cs : List AV}
    (hg : P.globalNamed name = some g) (hty : (P.globals[g]?).map (·.type) = some t) (ht : t ∈ ts) (hav : avD A N t d = some cs) : VR (Gh.start W) (.ip cs) (.pointer (some ⟨g, 0, none⟩)) := by
  obtain ⟨ps, hl, _⟩ := hL
  obtain ⟨g', t', vs, fuel, p, h1, h2, h3, h4⟩ := laid_mem hl hm
  obtain rfl := Option.some.inj (hg.symm.trans h1)
  obtain rfl := Option.some.inj (hty.symm.trans h2)
  obtain ⟨l, h5, h6, _⟩ := trod_av hT hc fuel _ _ d p ht h4
  obtain rfl := avD_det hav h5
  have hb : ∃ tt fr, W.heap[g]? = some (.cells vs tt fr) := by
    unfold World.var? at h3
    rw [hg] at h3
    simp only [Option.bind_some] at h3
    split at h3
    · rename_i c tt fr hc; cases h3; exact ⟨tt, fr, hc⟩
    · cases h3
  obtain ⟨tt, fr, hb⟩ := hb
  refine .ip cs g 0 vs.toList (start_H hb) (by rw [← h6.len]; omega) fun j a v ha hv => ?_
  rw [Nat.zero_add] at hv
  exact h6.at_ j a v ha hv
end

end Go.St
