/- The store stands for the memory. -/
import Derived.Test.YtnjpbbiolngfkaaDoorStS1
namespace Go.St
open Go.RowKit
set_option linter.unusedVariables false
set_option linter.unusedSimpArgs false

/-! ### What is old -/
theorem olds_iff (n : Nat) : ∀ l : List AV, olds n l = true ↔ ∀ a ∈ l, a.old n = true := by
  intro l
  induction l with
  | nil => simp [olds]
  | cons a r ih => simp [olds, ih]

theorem all_at {G : Gh} {n : Nat} {cs : List AV} {l : List Value} {o : Nat} (hl : o + cs.length ≤ l.length)
    (ih : ∀ (j : Nat) (a : AV) (v : Value), cs[j]? = some a → l[o + j]? = some v → a.old n = true) : olds n cs = true := by
  rw [olds_iff]
  intro a ha
  obtain ⟨j, hj, rfl⟩ := List.getElem_of_mem ha
  exact ih j _ _ (List.getElem?_eq_getElem hj) (List.getElem?_eq_getElem (by omega))
theorem all_at' {n : Nat} {cs : List AV} {l : Array Value} (hl : cs.length = l.size)
    (ih : ∀ (j : Nat) (a : AV) (v : Value), cs[j]? = some a → l[j]? = some v → a.old n = true) : olds n cs = true := by
  rw [olds_iff]
  intro a ha
  obtain ⟨j, hj, rfl⟩ := List.getElem_of_mem ha
  exact ih j _ _ (List.getElem?_eq_getElem hj) (Array.getElem?_eq_getElem (by omega))

/-- Tips that are told in a value are tips (of some object). -/
def Gh.cut (n : Nat) (G : Gh) : Gh := { G with ρ := fun i g => if i < n then G.ρ i g else none }

theorem VR.cut {G : Gh} {n : Nat} {a : AV} {v : Value} (h : VR G a v) : a.old n = true → VR (G.cut n) a v := by
  have hρ : ∀ i g x, i < n → G.ρ i g = some x → (G.cut n).ρ i g = some x := fun i g x hi hx => by simp [Gh.cut, hi, hx]
  induction h with
  | any v => exact fun _ => .any v
  | one v h => exact fun _ => .one v h
  | bool b => exact fun _ => .bool b
  | int k n => exact fun _ => .int k n
  | str s => exact fun _ => .str s
  | nilp => exact fun _ => .nilp
  | ip cs b o l hH hl hh ih =>
    intro ho
    simp only [AV.old, olds_iff] at ho
    exact .ip cs b o l hH hl fun j a v ha hv => ih j a v ha hv (ho a (List.mem_of_getElem? ha))
  | mp id g off b o hh => intro ho; exact .mp id g off b o (hρ _ _ _ (by simpa [AV.old] using ho) hh)
  | nils => exact fun _ => .nils
  | is row len tok b o cap l hH hl hc ht hh h1 ih =>
    intro ho
    simp only [AV.old, Bool.and_eq_true, olds_iff] at ho
    refine .is row len tok b o cap l hH hl hc ?_ (fun j a v ha hv => ih j a v ha hv (ho.1 a (List.mem_of_getElem? ha))) h1
    cases tok with
    | no => trivial
    | full => exact ht
    | cut n => exact ht
    | tip i g es =>
      obtain ⟨⟨m, x, hx⟩, ht⟩ := ht
      refine ⟨⟨m, x, hρ _ _ _ (by simpa [Tok.old] using ho.2) hx⟩, ?_⟩
      rcases ht with ht | ⟨h1, h2⟩
      · exact .inl ht
      · exact .inr ⟨hρ _ _ _ (by simpa [Tok.old] using ho.2) h1, h2⟩
  | is0 a cap => exact fun _ => .is0 a cap
  | ms id g off len es b o cap a hh hc ha => intro ho; exact .ms id g off len es b o cap a (hρ _ _ _ (by simpa [AV.old] using ho) hh) hc ha
  | nilm => exact fun _ => .nilm
  | mr id b hh => intro ho; exact .mr id b (hρ _ _ _ (by simpa [AV.old] using ho) hh)
  | fn f as cs xs ys hf hx hy hh hk ih ik =>
    intro ho
    simp only [AV.old, Bool.and_eq_true, olds_iff] at ho
    exact .fn f as cs xs ys hf hx hy (fun j a v ha hv => ih j a v ha hv (ho.1.1 a (List.mem_of_getElem? ha))) (fun j a v ha hv => ik j a v ha hv (ho.1.2 a (List.mem_of_getElem? ha)))
  | nilfn => exact fun _ => .nilfn
  | ifc t a v hh ih => intro ho; exact .ifc t a v (ih (by simpa [AV.old] using ho))
  | nili => exact fun _ => .nili
  | agg as xs hx hh ih =>
    intro ho
    simp only [AV.old, olds_iff] at ho
    exact .agg as xs hx fun j a v ha hv => ih j a v ha hv (ho a (List.mem_of_getElem? ha))
  | tup as xs hx hh ih =>
    intro ho
    simp only [AV.old, olds_iff] at ho
    exact .tup as xs hx fun j a v ha hv => ih j a v ha hv (ho a (List.mem_of_getElem? ha))
  | it id b hh => intro ho; exact .it id b (hρ _ _ _ (by simpa [AV.old] using ho) hh)
  | yl id b hh => intro ho; exact .yl id b (hρ _ _ _ (by simpa [AV.old] using ho) hh)

theorem strips_len (n : Nat) : ∀ l : List AV, (strips n l).length = l.length := by
  intro l; induction l with
  | nil => rfl
  | cons a r ih => simp [strips, ih]
theorem strips_get (n : Nat) : ∀ (l : List AV) (j : Nat) (a : AV), (strips n l)[j]? = some a → ∃ b, l[j]? = some b ∧ a = b.strip n := by
  intro l
  induction l with
  | nil => intro j a h; simp [strips] at h
  | cons x r ih =>
    intro j a h
    cases j with
    | zero => simp [strips] at h; exact ⟨x, rfl, h.symm⟩
    | succ j => simp only [strips, List.getElem?_cons_succ] at h ⊢; exact ih j a h

theorem VR.strip {G : Gh} {n : Nat} {a : AV} {v : Value} (h : VR G a v) : VR G (a.strip n) v := by
  induction h with
  | any v => exact .any v
  | one v h => exact .one v h
  | bool b => exact .bool b
  | int k n => exact .int k n
  | str s => exact .str s
  | nilp => exact .nilp
  | ip cs b o l hH hl hh ih =>
    refine .ip _ b o l hH (by rw [strips_len]; exact hl) fun j a v ha hv => ?_
    obtain ⟨c, hc, rfl⟩ := strips_get n cs j a ha
    exact ih j c v hc hv
  | mp id g off b o hh => exact .mp id g off b o hh
  | nils => exact .nils
  | is row len tok b o cap l hH hl hc ht hh h1 ih =>
    refine .is _ len _ b o cap l hH (by rw [strips_len]; exact hl) hc ?_ (fun j a v ha hv => ?_) (fun j v hj hv => h1 j v (by rwa [strips_len] at hj) hv)
    · rw [strips_len]
      cases tok with
      | no => trivial
      | full => exact ht
      | cut n => exact ht
      | tip i g es =>
        by_cases hi : i < n
        · simp only [Tok.strip, hi, if_true]; exact ht
        · simp only [Tok.strip, hi, if_false]; trivial
    · obtain ⟨c, hc, rfl⟩ := strips_get n row j a ha
      exact ih j c v hc hv
  | is0 a cap => exact .is0 a cap
  | ms id g off len es b o cap a hh hc ha => exact .ms id g off len es b o cap a hh hc ha
  | nilm => exact .nilm
  | mr id b hh => exact .mr id b hh
  | fn f as cs xs ys hf hx hy hh hk ih ik =>
    refine .fn f _ _ xs ys hf (by rw [strips_len]; exact hx) (by rw [strips_len]; exact hy) (fun j a v ha hv => ?_) (fun j a v ha hv => ?_)
    · obtain ⟨c, hc, rfl⟩ := strips_get n as j a ha
      exact ih j c v hc hv
    · obtain ⟨c, hc, rfl⟩ := strips_get n cs j a ha
      exact ik j c v hc hv
  | nilfn => exact .nilfn
  | ifc t a v hh ih => exact .ifc t _ v ih
  | nili => exact .nili
  | agg as xs hx hh ih =>
    refine .agg _ xs (by rw [strips_len]; exact hx) fun j a v ha hv => ?_
    obtain ⟨c, hc, rfl⟩ := strips_get n as j a ha
    exact ih j c v hc hv
  | tup as xs hx hh ih =>
    refine .tup _ xs (by rw [strips_len]; exact hx) fun j a v ha hv => ?_
    obtain ⟨c, hc, rfl⟩ := strips_get n as j a ha
    exact ih j c v hc hv
  | it id b hh => exact .it id b hh
  | yl id b hh => exact .yl id b hh

/-! ### Objects -/
def Ob.ver : Ob → Nat
  | .cells g _ _ => g
  | .tip g => g
  | .dead => 1
  | .loop _ => 1
  | _ => 0

/-- Cells from off on may be written. -/
def free (fr : Nat × Nat) (off size : Nat) : Prop := ∀ k, off ≤ k → k < size → ¬ (fr.1 ≤ k ∧ k < fr.2)

/-- A Builder at block b, whose buffer is a block of its own. -/
def BldR (T e : TypeId) (G : Gh) (own : Nat → Option Nat) (w : World) (i b : Nat) (s : ByteArray) : Prop :=
  ∃ p v, (p = .pointer none ∨ p = .pointer (some ⟨b, 0, none⟩)) ∧ w.heap[b]? = some (.cells #[p, v] T (0, 0)) ∧ G.H b = none ∧
    ((v = .slice none 0 0 ∧ s = ByteArray.empty) ∨ ∃ g cap cur fz, v = .slice (some ⟨g, 0, none⟩) s.size cap ∧ own g = some i ∧ g ≠ b ∧ G.H g = none ∧ w.heap[g]? = some (.cells cur e (0, fz)) ∧
      s.size ≠ 0 ∧ fz ≤ s.size ∧ s.size ≤ cap ∧ cap ≤ maxLen ∧ cur.size = cap ∧ cur.toList.take s.size = s.data.toList.map fun b => Value.int .u8 b.toNat)

def ObR (T e : TypeId) (G : Gh) (own : Nat → Option Nat) (w : World) (i : Nat) : Ob → Prop
  | .dead => True
  | .cells g cs fz => ∃ b o arr t fr, G.ρ i g = some (b, o) ∧ own b = some i ∧ G.H b = none ∧ G.Z b = some arr.size ∧ w.heap[b]? = some (.cells arr t fr) ∧
      o + cs.length ≤ arr.size ∧ VRs G cs ((arr.toList.drop o).take cs.length) ∧ (∀ v ∈ (arr.toList.drop o).take cs.length, v.oneCell' = true) ∧ (fz ≤ cs.length → free fr (o + fz) arr.size)
  | .tip g => ∃ b l arr t fr, G.ρ i g = some (b, l.length) ∧ own b = some i ∧ G.H b = some l ∧ G.Z b = some arr.size ∧ w.heap[b]? = some (.cells arr t fr) ∧ free fr l.length arr.size
  | .bld s => ∃ b, G.ρ i 0 = some (b, 0) ∧ own b = some i ∧ BldR T e G own w i b s
  | .iter s pos => ∃ b, G.ρ i 0 = some (b, 0) ∧ own b = some i ∧ w.heap[b]? = some (.stringIter s pos)
  | .map es => ∃ b arr, G.ρ i 0 = some (b, 0) ∧ own b = some i ∧ w.heap[b]? = some (.map arr arr.size) ∧ arr.size = es.length ∧
      ∀ (j : Nat) (x : AV × AV) (y : MapEntry), es[j]? = some x → arr[j]? = some y → VR G x.1 y.key ∧ VR G x.2 y.val ∧ y.born = j
  | .loop l => ∃ b r tmps, G.ρ i 0 = some (b, 0) ∧ G.ρ i 1 = some (r, 0) ∧ own b = some i ∧ own r = some i ∧ b ≠ r ∧
      w.heap[b]? = some (.loop { state := l.state, pending := l.pending, fn := l.fn, tmps := tmps, params := l.params.toArray, assign := l.assign, body := l.body, defers := r }) ∧
      VRs G l.env tmps.toList ∧ w.heap[r]? = some (.deferred (some []))

structure RelO (T e : TypeId) (w0 : World) (G : Gh) (own : Nat → Option Nat) (st : Sto) (w : World) : Prop where
  below : Below w0.heap.size w0 w
  prot : ∀ b l, G.H b = some l → ∃ arr t fr m, w.heap[b]? = some (.cells arr t fr) ∧ arr.toList = l ++ m
  size : ∀ b n, G.Z b = some n → ∃ arr t fr, w.heap[b]? = some (.cells arr t fr) ∧ arr.size = n
  dom : ∀ i g x, G.ρ i g = some x → ∃ ob, st[i]? = some ob ∧ g ≤ ob.ver
  ownlt : ∀ b i, own b = some i → w0.heap.size ≤ b ∧ b < w.heap.size
  obj : ∀ i ob, st[i]? = some ob → ObR T e G own w i ob

def Rel (T e : TypeId) (w0 : World) (G : Gh) (st : Sto) (w : World) : Prop := ∃ own, RelO T e w0 G own st w

theorem ObR.frame {T e : TypeId} {G G' : Gh} {own own' : Nat → Option Nat} {w w' : World} {i : Nat} {ob : Ob} (h : ObR T e G own w i ob) (hG : G.le G')
    (hk : ∀ b, own b = some i → w'.heap[b]? = w.heap[b]? ∧ own' b = some i ∧ G'.H b = G.H b) : ObR T e G' own' w' i ob := by
  cases ob with
  | dead => trivial
  | cells g cs fz =>
    obtain ⟨b, o, arr, t, fr, h1, h2, h3, h4, h5, h6, h7, h9, h8⟩ := h
    obtain ⟨k1, k2, k3⟩ := hk b h2
    exact ⟨b, o, arr, t, fr, hG.ρ _ _ _ h1, k2, k3.trans h3, hG.Z _ _ h4, k1.trans h5, h6, h7.mono hG, h9, h8⟩
  | tip g =>
    obtain ⟨b, l, arr, t, fr, h1, h2, h3, h4, h5, h6⟩ := h
    obtain ⟨k1, k2, k3⟩ := hk b h2
    exact ⟨b, l, arr, t, fr, hG.ρ _ _ _ h1, k2, k3.trans h3, hG.Z _ _ h4, k1.trans h5, h6⟩
  | bld s =>
    obtain ⟨b, h1, h2, p, v, hp, hb, hH, hv⟩ := h
    obtain ⟨k1, k2, k3⟩ := hk b h2
    refine ⟨b, hG.ρ _ _ _ h1, k2, p, v, hp, k1.trans hb, k3.trans hH, ?_⟩
    rcases hv with hv | ⟨g, cap, cur, fz, hv, hg, hgb, hgH, hgh, r⟩
    · exact .inl hv
    · obtain ⟨m1, m2, m3⟩ := hk g hg
      exact .inr ⟨g, cap, cur, fz, hv, m2, hgb, m3.trans hgH, m1.trans hgh, r⟩
  | iter s pos =>
    obtain ⟨b, h1, h2, h3⟩ := h
    obtain ⟨k1, k2, k3⟩ := hk b h2
    exact ⟨b, hG.ρ _ _ _ h1, k2, k1.trans h3⟩
  | map es =>
    obtain ⟨b, arr, h1, h2, h3, h4, h5⟩ := h
    obtain ⟨k1, k2, k3⟩ := hk b h2
    exact ⟨b, arr, hG.ρ _ _ _ h1, k2, k1.trans h3, h4, fun j x y hx hy => let ⟨a, b, c⟩ := h5 j x y hx hy; ⟨a.mono hG, b.mono hG, c⟩⟩
  | loop l =>
    obtain ⟨b, r, tmps, h1, h2, h3, h4, h5, h6, h7, h8⟩ := h
    obtain ⟨k1, k2, _⟩ := hk b h3
    obtain ⟨m1, m2, _⟩ := hk r h4
    exact ⟨b, r, tmps, hG.ρ _ _ _ h1, hG.ρ _ _ _ h2, k2, m2, h5, k1.trans h6, h7.mono hG, m1.trans h8⟩

/-- Blocks of S change, all of them free or object i's; object i is ob' then (or is new). -/
theorem RelO.upd {T e : TypeId} {w0 : World} {G G' : Gh} {own own' : Nat → Option Nat} {st st' : Sto} {w w' : World} (h : RelO T e w0 G own st w) (S : Nat → Prop) (i : Nat) (ob' : Ob)
    (hos : w'.os = w.os) (htape : w'.tape = w.tape) (hout : w'.output = w.output) (hsz : w.heap.size ≤ w'.heap.size) (hother : ∀ k, ¬ S k → w'.heap[k]? = w.heap[k]?)
    (hS : ∀ k, S k → w0.heap.size ≤ k ∧ (own k = none ∨ own k = some i))
    (hG : G.le G') (hH : ∀ k, ¬ S k → G'.H k = G.H k) (hHS : ∀ k l, S k → G'.H k = some l → ∃ arr t fr m, w'.heap[k]? = some (.cells arr t fr) ∧ arr.toList = l ++ m)
    (hZ : ∀ k n, G'.Z k = some n → (¬ S k ∧ G.Z k = some n) ∨ ∃ arr t fr, w'.heap[k]? = some (.cells arr t fr) ∧ arr.size = n)
    (hst : (st' = st.set i ob' ∧ ∃ ob, st[i]? = some ob ∧ ob.ver ≤ ob'.ver) ∨ (st' = st ++ [ob'] ∧ i = st.length))
    (hown : ∀ k, own' k = own k ∨ (S k ∧ (own' k = some i ∨ own' k = none) ∧ k < w'.heap.size))
    (hρ : ∀ j g x, G'.ρ j g = some x → G.ρ j g = some x ∨ (j = i ∧ g ≤ ob'.ver))
    (hob : ObR T e G' own' w' i ob') : RelO T e w0 G' own' st' w' := by
  have hlen : st.length ≤ st'.length := by rcases hst with ⟨rfl, _⟩ | ⟨rfl, _⟩ <;> simp
  have hi : st'[i]? = some ob' := by
    rcases hst with ⟨rfl, ob, hob, _⟩ | ⟨rfl, rfl⟩
    · have : i < st.length := (List.getElem?_eq_some_iff.1 hob).1
      simp [this]
    · simp
  have hne : ∀ j, j ≠ i → st'[j]? = st[j]? := by
    intro j hj
    rcases hst with ⟨rfl, _⟩ | ⟨rfl, rfl⟩
    · rw [List.getElem?_set_ne (Ne.symm hj)]
    · rw [List.getElem?_append]
      split
      · rfl
      · rename_i hjl
        rw [List.getElem?_eq_none (by simp; omega), List.getElem?_eq_none (by omega)]
  refine ⟨⟨hos.trans h.below.os, htape.trans h.below.tape, hout.trans h.below.output, Nat.le_trans h.below.size hsz, fun k hk => ?_⟩, fun b l hb => ?_, fun b n hn => ?_, fun j g x hx => ?_, fun b j hb => ?_, fun j ob hj => ?_⟩
  · rw [hother k (fun hs => by have := (hS k hs).1; omega)]
    exact h.below.block k hk
  · by_cases hs : S b
    · exact hHS b l hs hb
    · rw [hother b hs]; exact h.prot b l (by rw [← hH b hs]; exact hb)
  · rcases hZ b n hn with ⟨hs, hz⟩ | hz
    · rw [hother b hs]; exact h.size b n hz
    · exact hz
  · rcases hρ j g x hx with hx | ⟨rfl, hg⟩
    · obtain ⟨ob, ho, hv⟩ := h.dom j g x hx
      by_cases hj : j = i
      · subst hj
        refine ⟨ob', hi, ?_⟩
        rcases hst with ⟨_, ob2, ho2, hv2⟩ | ⟨_, rfl⟩
        · rw [ho] at ho2; cases ho2; omega
        · have := (List.getElem?_eq_some_iff.1 ho).1; omega
      · exact ⟨ob, by rw [hne j hj]; exact ho, hv⟩
    · exact ⟨ob', hi, hg⟩
  · rcases hown b with hb' | ⟨hs, hb', hlt⟩
    · rw [hb'] at hb; have := h.ownlt b j hb; exact ⟨this.1, by omega⟩
    · exact ⟨(hS b hs).1, hlt⟩
  · by_cases hji : j = i
    · subst hji
      rw [hi] at hj
      cases hj
      exact hob
    · rw [hne j hji] at hj
      refine (h.obj j ob hj).frame hG fun b hb => ?_
      have hs : ¬ S b := fun hs => by
        rcases (hS b hs).2 with h' | h'
        · rw [h'] at hb; cases hb
        · rw [h'] at hb; exact hji (Option.some.inj hb).symm
      refine ⟨hother b hs, ?_, hH b hs⟩
      rcases hown b with hb' | ⟨hs', _⟩
      · rw [hb']; exact hb
      · exact absurd hs' hs

/-- New blocks that no object is: rows that nobody writes. -/
theorem RelO.newrow {T e : TypeId} {w0 : World} {G : Gh} {own : Nat → Option Nat} {st : Sto} {w : World} (h : RelO T e w0 G own st w) (arr : Array Value) (t : TypeId) (fr : Nat × Nat) :
    RelO T e w0 { G with H := fun b => if b = w.heap.size then some arr.toList else G.H b, Z := fun b => if b = w.heap.size then some arr.size else G.Z b } own st (w.alloc (.cells arr t fr)) ∧
    G.le { G with H := fun b => if b = w.heap.size then some arr.toList else G.H b, Z := fun b => if b = w.heap.size then some arr.size else G.Z b } := by
  have hold : ∀ k, k < w.heap.size → (w.alloc (.cells arr t fr)).heap[k]? = w.heap[k]? := fun k hk => Below.heap_alloc w _ k hk
  have hnew : (w.alloc (.cells arr t fr)).heap[w.heap.size]? = some (.cells arr t fr) := by show (w.heap.push _)[w.heap.size]? = _; simp
  have hHlt : ∀ b l, G.H b = some l → b < w.heap.size := fun b l hb => by
    obtain ⟨_, _, _, _, hh, _⟩ := h.prot b l hb
    exact (Array.getElem?_eq_some_iff.1 hh).1
  have hZlt : ∀ b l, G.Z b = some l → b < w.heap.size := fun b l hb => by
    obtain ⟨_, _, _, hh, _⟩ := h.size b l hb
    exact (Array.getElem?_eq_some_iff.1 hh).1
  have hle : G.le { G with H := fun b => if b = w.heap.size then some arr.toList else G.H b, Z := fun b => if b = w.heap.size then some arr.size else G.Z b } :=
    ⟨fun _ _ _ hx => hx, fun b l hb => ⟨[], by have := hHlt b l hb; simp only [List.append_nil]; rw [if_neg (by omega)]; exact hb⟩, fun b n hb => by have := hZlt b n hb; simp only; rw [if_neg (by omega)]; exact hb⟩
  refine ⟨⟨h.below.alloc (h.below.size) _, fun b l hb => ?_, fun b n hn => ?_, h.dom, fun b i hb => ?_, fun i ob hi => ?_⟩, hle⟩
  · simp only at hb
    split at hb
    · rename_i hb'; subst hb'; cases hb; exact ⟨arr, t, fr, [], hnew, by simp⟩
    · rw [hold b (hHlt b l hb)]; exact h.prot b l hb
  · simp only at hn
    split at hn
    · rename_i hb'; subst hb'; cases hn; exact ⟨arr, t, fr, hnew, rfl⟩
    · rw [hold b (hZlt b n hn)]; exact h.size b n hn
  · have := h.ownlt b i hb
    exact ⟨this.1, by show b < (w.heap.push _).size; simp; omega⟩
  · refine (h.obj i ob hi).frame hle fun b hb => ?_
    have := h.ownlt b i hb
    exact ⟨hold b this.2, hb, by simp only; rw [if_neg (by omega)]⟩

theorem RelO.drawn {T e : TypeId} {w0 : World} {G : Gh} {own : Nat → Option Nat} {st : Sto} {w : World} (h : RelO T e w0 G own st w) (n : Nat) : RelO T e w0 G own st { w with drawn := n } := by
  refine ⟨⟨h.below.os, h.below.tape, h.below.output, h.below.size, h.below.block⟩, h.prot, h.size, h.dom, h.ownlt, fun i ob hi => ?_⟩
  exact (h.obj i ob hi).frame (Gh.le.refl G) fun b hb => ⟨rfl, hb, rfl⟩

/-- A new object in a new block. -/
theorem RelO.new {T e : TypeId} {w0 : World} {G : Gh} {own : Nat → Option Nat} {st : Sto} {w : World} (h : RelO T e w0 G own st w) (ob : Ob) (o : Obj) (G' : Gh) (own' : Nat → Option Nat)
    (hown' : own' = fun k => if k = w.heap.size then some st.length else own k)
    (hG : G.le G') (hH : ∀ k, k ≠ w.heap.size → G'.H k = G.H k) (hHS : ∀ l, G'.H w.heap.size = some l → ∃ arr t fr m, o = .cells arr t fr ∧ arr.toList = l ++ m)
    (hZ : ∀ k n, G'.Z k = some n → (k ≠ w.heap.size ∧ G.Z k = some n) ∨ (k = w.heap.size ∧ ∃ arr t fr, o = .cells arr t fr ∧ arr.size = n))
    (hρ : ∀ j g x, G'.ρ j g = some x → G.ρ j g = some x ∨ (j = st.length ∧ g ≤ ob.ver))
    (hob : ObR T e G' own' (w.alloc o) st.length ob) : RelO T e w0 G' own' (st ++ [ob]) (w.alloc o) := by
  subst hown'
  have hnew : (w.alloc o).heap[w.heap.size]? = some o := by show (w.heap.push _)[w.heap.size]? = _; simp
  refine h.upd (S := fun k => k = w.heap.size) st.length ob rfl rfl rfl (by show w.heap.size ≤ (w.heap.push _).size; simp) (fun k hk => ?_) (fun k hk => ?_) hG hH (fun k l hk hl => ?_) (fun k n hn => ?_) (.inr ⟨rfl, rfl⟩) (fun k => ?_) hρ hob
  · show (w.heap.push _)[k]? = _
    rw [Array.getElem?_push, if_neg hk]
  · subst hk
    refine ⟨h.below.size, .inl ?_⟩
    cases ho : own w.heap.size with
    | none => rfl
    | some i => have := (h.ownlt _ _ ho).2; omega
  · subst hk
    obtain ⟨arr, t, fr, m, rfl, hm⟩ := hHS l hl
    exact ⟨arr, t, fr, m, hnew, hm⟩
  · rcases hZ k n hn with ⟨h1, h2⟩ | ⟨rfl, arr, t, fr, rfl, h3⟩
    · exact .inl ⟨h1, h2⟩
    · exact .inr ⟨arr, t, fr, hnew, h3⟩
  · by_cases hk : k = w.heap.size
    · exact .inr ⟨hk, .inl (by simp [hk]), by subst hk; show _ < (w.heap.push _).size; simp⟩
    · exact .inl (by simp [hk])

end Go.St
