/- What is made in a call and forgotten behind it. -/
import Derived.Test.YtnjpbbiolngfkaaDoorStS12
namespace Go.St
open Go.RowKit
set_option linter.unusedVariables false
set_option linter.unusedSimpArgs false

theorem VR.older {G : Gh} {n : Nat} (hd : ∀ i g x, G.ρ i g = some x → i < n) {a : AV} {v : Value} (h : VR G a v) : a.old n = true := by
  induction h with
  | any v => rfl
  | one v h => rfl
  | bool b => rfl
  | int k n => rfl
  | str s => rfl
  | nilp => rfl
  | ip cs b o l hH hl hh ih => simp only [AV.old]; exact all_at (G := G) hl ih
  | mp id g off b o hh => simp only [AV.old, decide_eq_true_eq]; exact hd _ _ _ hh
  | nils => rfl
  | is row len tok b o cap l hH hl hc ht hh h1 ih =>
    simp only [AV.old, Bool.and_eq_true]
    refine ⟨all_at (G := G) hl ih, ?_⟩
    cases tok with
    | no => rfl
    | full => rfl
    | cut n => rfl
    | tip i g es => obtain ⟨⟨m, x, hx⟩, _⟩ := ht; simp only [Tok.old, decide_eq_true_eq]; exact hd _ _ _ hx
  | is0 a cap => rfl
  | ms id g off len es b o cap a hh hc ha => simp only [AV.old, decide_eq_true_eq]; exact hd _ _ _ hh
  | nilm => rfl
  | mr id b hh => simp only [AV.old, decide_eq_true_eq]; exact hd _ _ _ hh
  | fn f as cs xs ys hf hx hy hh hk ih ik =>
    simp only [AV.old, Bool.and_eq_true]
    refine ⟨⟨all_at' hx ih, all_at' hy ik⟩, ?_⟩
    trivial
  | nilfn => rfl
  | ifc t a v hh ih => simpa [AV.old] using ih
  | nili => rfl
  | agg as xs hx hh ih => simp only [AV.old]; exact all_at' hx ih
  | tup as xs hx hh ih => simp only [AV.old]; exact all_at' hx ih
  | it id b hh => simp only [AV.old, decide_eq_true_eq]; exact hd _ _ _ hh
  | yl id b hh => simp only [AV.old, decide_eq_true_eq]; exact hd _ _ _ hh

theorem VRs.older {G : Gh} {n : Nat} (hd : ∀ i g x, G.ρ i g = some x → i < n) {as : List AV} {vs : List Value} (h : VRs G as vs) : olds n as = true := by
  rw [olds_iff]
  intro a ha
  obtain ⟨j, hj, rfl⟩ := List.getElem_of_mem ha
  obtain ⟨v, _, hv⟩ := h.get (List.getElem?_eq_getElem hj)
  exact hv.older hd

theorem VRs.cut {G : Gh} {n : Nat} {as : List AV} {vs : List Value} (h : VRs G as vs) (ho : olds n as = true) : VRs (G.cut n) as vs := by
  rw [olds_iff] at ho
  exact ⟨h.len, fun j a v ha hv => (h.at_ j a v ha hv).cut (ho a (List.mem_of_getElem? ha))⟩

theorem ObR.older {T e : TypeId} {G : Gh} {own : Nat → Option Nat} {w : World} {i n : Nat} {ob : Ob} (hd : ∀ i g x, G.ρ i g = some x → i < n) (h : ObR T e G own w i ob) : ob.old n = true := by
  cases ob with
  | cells g cs fz =>
    obtain ⟨b, o, arr, t, fr, h1, h2, h3, h4, h5, h6, h7, h9, h8⟩ := h
    exact h7.older hd
  | map es =>
    obtain ⟨b, arr, h1, h2, h3, h4, h5⟩ := h
    simp only [Ob.old, List.all_eq_true, Bool.and_eq_true]
    intro x hx
    obtain ⟨j, hj, rfl⟩ := List.getElem_of_mem hx
    have hj' : j < arr.size := by omega
    obtain ⟨k1, k2, _⟩ := h5 j _ _ (List.getElem?_eq_getElem hj) (Array.getElem?_eq_getElem hj')
    exact ⟨k1.older hd, k2.older hd⟩
  | loop l =>
    obtain ⟨b, r, tmps, h1, h2, h3, h4, h5, h6, h7, h8⟩ := h
    exact h7.older hd
  | _ => rfl

def ownCut (n : Nat) (own : Nat → Option Nat) : Nat → Option Nat := fun b => match own b with | some i => if i < n then some i else none | none => none

theorem ownCut_some {n i b : Nat} {own : Nat → Option Nat} (h : own b = some i) (hi : i < n) : ownCut n own b = some i := by simp [ownCut, h, hi]

theorem ObR.cut {T e : TypeId} {G : Gh} {own : Nat → Option Nat} {w : World} {i n : Nat} {ob : Ob} (h : ObR T e G own w i ob) (hi : i < n) (ho : ob.old n = true) : ObR T e (G.cut n) (ownCut n own) w i ob := by
  have hρ : ∀ g x, G.ρ i g = some x → (G.cut n).ρ i g = some x := fun g x hx => by simp [Gh.cut, hi, hx]
  cases ob with
  | dead => trivial
  | cells g cs fz =>
    obtain ⟨b, o, arr, t, fr, h1, h2, h3, h4, h5, h6, h7, h9, h8⟩ := h
    exact ⟨b, o, arr, t, fr, hρ _ _ h1, ownCut_some h2 hi, h3, h4, h5, h6, h7.cut ho, h9, h8⟩
  | tip g =>
    obtain ⟨b, l, arr, t, fr, h1, h2, h3, h4, h5, h6⟩ := h
    exact ⟨b, l, arr, t, fr, hρ _ _ h1, ownCut_some h2 hi, h3, h4, h5, h6⟩
  | bld s =>
    obtain ⟨b, h1, h2, p, v, hp, hb, hH, hv⟩ := h
    refine ⟨b, hρ _ _ h1, ownCut_some h2 hi, p, v, hp, hb, hH, ?_⟩
    rcases hv with hv | ⟨g, cap, cur, fz, hv, hg, r⟩
    · exact .inl hv
    · exact .inr ⟨g, cap, cur, fz, hv, ownCut_some hg hi, r⟩
  | iter s pos =>
    obtain ⟨b, h1, h2, h3⟩ := h
    exact ⟨b, hρ _ _ h1, ownCut_some h2 hi, h3⟩
  | map es =>
    obtain ⟨b, arr, h1, h2, h3, h4, h5⟩ := h
    simp only [Ob.old, List.all_eq_true, Bool.and_eq_true] at ho
    refine ⟨b, arr, hρ _ _ h1, ownCut_some h2 hi, h3, h4, fun j x y hx hy => ?_⟩
    obtain ⟨k1, k2, k3⟩ := h5 j x y hx hy
    obtain ⟨o1, o2⟩ := ho x (List.mem_of_getElem? hx)
    exact ⟨k1.cut o1, k2.cut o2, k3⟩
  | loop l =>
    obtain ⟨b, r, tmps, h1, h2, h3, h4, h5, h6, h7, h8⟩ := h
    exact ⟨b, r, tmps, hρ _ _ h1, hρ _ _ h2, ownCut_some h3 hi, ownCut_some h4 hi, h5, h6, h7.cut ho, h8⟩

theorem RelO.cut {T e : TypeId} {w0 : World} {G : Gh} {own : Nat → Option Nat} {st : Sto} {w : World} {n : Nat} (h : RelO T e w0 G own st w) (hn : n ≤ st.length) (ho : ∀ i ob, i < n → st[i]? = some ob → ob.old n = true) :
    RelO T e w0 (G.cut n) (ownCut n own) (st.take n) w := by
  refine ⟨h.below, h.prot, h.size, fun i g x hx => ?_, fun b i hb => ?_, fun i ob hi => ?_⟩
  · simp only [Gh.cut] at hx
    split at hx
    · rename_i hi
      obtain ⟨ob, k1, k2⟩ := h.dom i g x hx
      exact ⟨ob, by rw [List.getElem?_take, if_pos hi]; exact k1, k2⟩
    · cases hx
  · unfold ownCut at hb
    split at hb
    · rename_i j hj
      exact h.ownlt b j hj
    · cases hb
  · rw [List.getElem?_take] at hi
    split at hi
    · rename_i hin
      exact (h.obj i ob hi).cut hin (ho i ob hin hi)
    · cases hi

theorem Gh.cut_le {G0 G : Gh} {n : Nat} (h : G0.le G) (hd : ∀ i g x, G0.ρ i g = some x → i < n) : G0.le (G.cut n) :=
  ⟨fun i g x hx => by simp [Gh.cut, hd i g x hx, h.ρ _ _ _ hx], h.H, h.Z⟩

section
variable {P : Program} {A : AProg} {w0 : World} {G : Gh} {st st' : Sto} {w : World} {R : Type}

theorem Rel.dom_lt (hR : Rel A.bld A.u8 w0 G st w) : ∀ i g x, G.ρ i g = some x → i < st.length := by
  obtain ⟨own, h⟩ := hR
  intro i g x hx
  obtain ⟨ob, ho, _⟩ := h.dom i g x hx
  exact (List.getElem?_eq_some_iff.1 ho).1

theorem Rel.olds (hR : Rel A.bld A.u8 w0 G st w) : ∀ (i : Nat) (ob : Ob), st[i]? = some ob → ob.old st.length = true := by
  have hd := hR.dom_lt
  obtain ⟨own, h⟩ := hR
  exact fun i ob hi => (h.obj i ob hi).older hd

/-- What a call leaves behind, the forgotten forgotten. -/
theorem gc_sound (hR : Rel A.bld A.u8 w0 G st w) {out : Out} {e : Ending} {w' : World} (h : RetOK A w0 G out st' e w') : RetOK A w0 G (gc st (out, st')).1 (gc st (out, st')).2 e w' := by
  unfold gc
  split
  · rename_i hc
    obtain ⟨h1, h2, h3⟩ := hc
    have key : ∀ {G' : Gh}, G.le G' → Rel A.bld A.u8 w0 G' st' w' → G.le (G'.cut st.length) ∧ Rel A.bld A.u8 w0 (G'.cut st.length) (st'.take st.length) w' := by
      intro G' k1 ⟨own, k2⟩
      refine ⟨Gh.cut_le k1 hR.dom_lt, _, k2.cut h2 fun i ob hi hob => ?_⟩
      rcases h3 i hi with h3 | ⟨o, h3, h4⟩
      · exact hR.olds i ob (h3.symm.trans hob)
      · rw [h3] at hob; cases hob; exact h4
    cases e with
    | returned v =>
      obtain ⟨G', k1, k2, x, rfl, k3⟩ := h
      obtain ⟨m1, m2⟩ := key k1 k2
      exact ⟨_, m1, m2, _, rfl, k3.strip.cut h1⟩
    | panicked ch =>
      obtain ⟨G', k1, k2, x, v, rfl, rfl, k3⟩ := h
      obtain ⟨m1, m2⟩ := key k1 k2
      exact ⟨_, m1, m2, _, v, rfl, rfl, k3.strip.cut h1⟩
    | outgrown => exact h.elim
  · exact h

/-- The same, the tip of what is handed back kept. -/
theorem gcT_sound (hR : Rel A.bld A.u8 w0 G st w) {out : Out} {e : Ending} {w' : World} (h : RetOK A w0 G out st' e w') : RetOK A w0 G (gcT st (out, st')).1 (gcT st (out, st')).2 e w' := by
  unfold gcT
  split
  · rename_i row len id g es hout
    simp only at hout
    subst hout
    split
    · rename_i hc
      obtain ⟨h1, h2, h3, h4, h5⟩ := hc
      simp only at h3 h4
      show RetOK A w0 G (.ret (.is (strips st.length row) len (.tip st.length 0 es))) (st'.take st.length ++ [.tip 0]) e w'
      cases e with
      | panicked ch => obtain ⟨G', k1, k2, x, v, hx, _⟩ := h; cases hx
      | outgrown => exact h.elim
      | returned v =>
        obtain ⟨G', k1, ⟨own, k2⟩, x, hx, k3⟩ := h
        cases hx
        have hold : ∀ i ob, i < st.length → st'[i]? = some ob → ob.old st.length = true := by
          intro i ob hi hob
          rcases h5 i hi with h5 | ⟨o, h5, h6⟩
          · exact hR.olds i ob (h5.symm.trans hob)
          · rw [h5] at hob; cases hob; exact h6
        have kc := k2.cut (n := st.length) h4 hold
        obtain ⟨b0, l0, arr, t, fr, o1, o2, o3, o4, o5, o6⟩ := k2.obj id _ h3
        have hlt : (st'.take st.length).length = st.length := by rw [List.length_take]; omega
        have hle : (G'.cut st.length).le ⟨fun i g' => if i < st.length then G'.ρ i g' else if i = st.length ∧ g' = 0 then some (b0, l0.length) else none, G'.H, G'.Z⟩ := by
          refine ⟨fun i g' x hx => ?_, fun b l hl => ⟨[], by simpa [Gh.cut] using hl⟩, fun _ _ h => h⟩
          simp only [Gh.cut] at hx
          split at hx
          · rename_i hi
            simp only [hi, if_true]
            exact hx
          · cases hx
        refine ⟨⟨fun i g' => if i < st.length then G'.ρ i g' else if i = st.length ∧ g' = 0 then some (b0, l0.length) else none, G'.H, G'.Z⟩, ⟨fun i g' x hx => ?_, k1.H, k1.Z⟩,
          ⟨fun b => match own b with | some i => if i < st.length then some i else if i = id then some st.length else none | none => none, ?_⟩, _, rfl, ?_⟩
        · simp only [hR.dom_lt i g' x hx, if_true]
          exact k1.ρ _ _ _ hx
        · skip
          refine ⟨kc.below, kc.prot, kc.size, fun i g' x hx => ?_, fun b i hb => ?_, fun i ob hi => ?_⟩
          · simp only at hx
            split at hx
            · rename_i hi
              obtain ⟨ob, e1, e2⟩ := k2.dom i g' x hx
              exact ⟨ob, by rw [List.getElem?_append_left (by omega), List.getElem?_take, if_pos hi]; exact e1, e2⟩
            · split at hx
              · rename_i he
                obtain ⟨rfl, rfl⟩ := he
                exact ⟨.tip 0, by rw [List.getElem?_append_right (by omega), hlt]; simp, Nat.le_refl _⟩
              · cases hx
          · split at hb
            · rename_i j hj
              exact k2.ownlt b j hj
            · cases hb
          · by_cases hin : i < st.length
            · rw [List.getElem?_append_left (by omega)] at hi
              refine (kc.obj i ob hi).frame hle fun b hb => ⟨rfl, ?_, rfl⟩
              unfold ownCut at hb
              split at hb
              · rename_i j hj
                split at hb
                · rename_i hjl
                  cases hb
                  simp only [hj, hjl, if_true]
                · cases hb
              · cases hb
            · have hlen := (List.getElem?_eq_some_iff.1 hi).1
              rw [List.length_append, hlt] at hlen
              simp only [List.length_cons, List.length_nil] at hlen
              obtain rfl : i = st.length := by omega
              rw [List.getElem?_append_right (by omega), hlt] at hi
              simp only [Nat.sub_self, List.getElem?_cons_zero, Option.some.injEq] at hi
              subst hi
              refine ⟨b0, l0, arr, t, fr, by simp, ?_, o3, o4, o5, o6⟩
              have hid : ¬ id < st.length := by omega
              simp only [o2, hid, if_false, if_true]
        · skip
          cases k3 with
          | is _ _ _ b o cap l hH hl hcap ht hh hone =>
            obtain ⟨_, ht⟩ := ht
            have hsl := strips_len st.length row
            refine .is _ len _ b o cap l hH (by rw [hsl]; exact hl) hcap ⟨⟨0, (b0, l0.length), by simp⟩, ?_⟩ (fun j a v ha hv => ?_) (fun j v hj hv => hone j v (by rwa [hsl] at hj) hv)
            · rw [hsl]
              rcases ht with ht | ⟨t1, t2, m, t3, t4⟩
              · exact .inl ht
              · rw [o1] at t1
                exact .inr ⟨by simp only [Nat.lt_irrefl, if_false, and_self, if_true]; exact t1, t2, m, t3, t4⟩
            · have ho := (olds_iff _ _).1 h1 a (List.mem_of_getElem? ha)
              obtain ⟨c, hc, rfl⟩ := strips_get st.length row j a ha
              exact (((hh j c v hc hv).strip).cut ho).mono hle
    · exact gc_sound hR h
  · exact gc_sound hR h

/-! ### Frozen -/
theorem list_eq {α : Type} : ∀ {l m : List α}, m.length = l.length → (∀ (j : Nat) (a b : α), l[j]? = some a → m[j]? = some b → b = a) → m = l := by
  intro l m hl h
  refine List.ext_getElem hl fun j h1 h2 => ?_
  exact h j _ _ (List.getElem?_eq_getElem h2) (List.getElem?_eq_getElem h1)
theorem list_eq' {α : Type} {P : α → α → Prop} {l m k : List α} (hm : m.length = l.length) (hk : k.length = l.length) (ih : ∀ (j : Nat) (a b : α), l[j]? = some a → m[j]? = some b → ∀ c, P a c → b = c) (h : ∀ (j : Nat) (a c : α), l[j]? = some a → k[j]? = some c → P a c) : m = k := by
  refine List.ext_getElem (hm.trans hk.symm) fun j h1 h2 => ?_
  have h0 : j < l.length := by omega
  exact ih j _ _ (List.getElem?_eq_getElem h0) (List.getElem?_eq_getElem h1) _ (h j _ _ (List.getElem?_eq_getElem h0) (List.getElem?_eq_getElem h2))

theorem Tok.strip_old {n : Nat} {t : Tok} (h : t.old n = true) : t.strip n = t := by
  cases t with
  | tip i g es => simp only [Tok.old, decide_eq_true_eq] at h; simp only [Tok.strip, h, if_true]
  | _ => rfl
theorem Tok.old_strip (n : Nat) (t : Tok) : (t.strip n).old n = true := by
  cases t with
  | tip i g es =>
    by_cases h : i < n
    · simp only [Tok.strip, h, if_true, Tok.old, decide_true]
    · simp only [Tok.strip, h, if_false, Tok.old]
  | _ => rfl

theorem Frz.old_eq {s : Sto} {n : Nat} {a b : AV} (h : Frz s n a b) : a.old n = true → b = a := by
  have key : ∀ {cs ds : List AV}, olds n cs = true → ds.length = cs.length → (∀ (j : Nat) (a b : AV), cs[j]? = some a → ds[j]? = some b → a.old n = true → b = a) → ds = cs := fun ho hl ih =>
    list_eq hl fun j a b ha hb => ih j a b ha hb ((olds_iff _ _).1 ho a (List.mem_of_getElem? ha))
  induction h with
  | old a h => exact fun _ => rfl
  | ip cs ds hl h ih => intro ho; rw [key (by simpa [AV.old] using ho) hl ih]
  | is row row' len tok hl h ih =>
    intro ho
    simp only [AV.old, Bool.and_eq_true] at ho
    rw [key ho.1 hl ih, Tok.strip_old ho.2]
  | ms id g off len es cs row' fz hn ho hb hl h ih => intro ho; simp only [AV.old, decide_eq_true_eq] at ho; omega
  | ifc t a b h ih => intro ho; rw [ih (by simpa [AV.old] using ho)]
  | agg cs ds hl h ih => intro ho; rw [key (by simpa [AV.old] using ho) hl ih]
  | tup cs ds hl h ih => intro ho; rw [key (by simpa [AV.old] using ho) hl ih]

theorem Frz.uniq {s : Sto} {n : Nat} {a b : AV} (h : Frz s n a b) : ∀ c, Frz s n a c → b = c := by
  induction h with
  | old a h => intro c k; exact (k.old_eq h).symm
  | ip cs ds hl h ih =>
    intro c k
    cases k with
    | old _ ho => exact Frz.old_eq (.ip cs ds hl h) ho
    | ip _ es kl k => rw [list_eq' hl kl ih k]
  | is row row' len tok hl h ih =>
    intro c k
    cases k with
    | old _ ho => exact Frz.old_eq (.is row row' len tok hl h) ho
    | is _ es _ _ kl k => rw [list_eq' hl kl ih k]
  | ms id g off len es cs row' fz hn ho hb hl h ih =>
    intro c k
    cases k with
    | old _ ho => simp only [AV.old, decide_eq_true_eq] at ho; omega
    | ms _ _ _ _ _ cs2 row2 fz2 hn2 ho2 hb2 hl2 h2 =>
      rw [ho] at ho2
      cases ho2
      congr 1
      refine List.ext_getElem (hl.trans hl2.symm) fun j h1' h2' => ?_
      have h0 : off + j < cs.length := by omega
      exact ih j _ _ (List.getElem?_eq_getElem h0) (List.getElem?_eq_getElem h1') _ (h2 j _ _ (List.getElem?_eq_getElem h0) (List.getElem?_eq_getElem h2'))
  | ifc t a b h ih =>
    intro c k
    cases k with
    | old _ ho => exact Frz.old_eq (.ifc t a b h) ho
    | ifc _ _ b2 k => rw [ih _ k]
  | agg cs ds hl h ih =>
    intro c k
    cases k with
    | old _ ho => exact Frz.old_eq (.agg cs ds hl h) ho
    | agg _ es kl k => rw [list_eq' hl kl ih k]
  | tup cs ds hl h ih =>
    intro c k
    cases k with
    | old _ ho => exact Frz.old_eq (.tup cs ds hl h) ho
    | tup _ es kl k => rw [list_eq' hl kl ih k]

open Classical in
theorem gcF_eq {st st' : Sto} {v b : AV} (h : Frz st' st.length v b) (hl : st.length ≤ st'.length) (hk : Kept st.length st st') : gcF st (.ret v, st') = (.ret b, st'.take st.length) := by
  unfold gcF
  have hc : (∃ b, Frz st' st.length v b) ∧ st.length ≤ st'.length ∧ Kept st.length st st' := ⟨⟨b, h⟩, hl, hk⟩
  show (if h : (∃ b, Frz st' st.length v b) ∧ st.length ≤ st'.length ∧ Kept st.length st st' then (Out.ret h.1.choose, st'.take st.length) else gc st (.ret v, st')) = _
  rw [dif_pos hc, h.uniq _ hc.1.choose_spec]

open Classical in
/-- What the young objects hold is never written again. -/
noncomputable def frzH (n : Nat) (G : Gh) (own : Nat → Option Nat) (w : World) (b : Nat) : Option (List Value) :=
  match G.H b with
  | some l => some l
  | none => match own b with
    | some i => if n ≤ i then (match w.heap[b]? with | some (.cells arr _ _) => some arr.toList | _ => none) else none
    | none => none
noncomputable def Gh.frz (n : Nat) (G : Gh) (own : Nat → Option Nat) (w : World) : Gh := ⟨(G.cut n).ρ, frzH n G own w, G.Z⟩

theorem frzH_some {n b : Nat} {G : Gh} {own : Nat → Option Nat} {w : World} {l : List Value} (h : G.H b = some l) : frzH n G own w b = some l := by
  unfold frzH; rw [h]
theorem frzH_old {n b i : Nat} {G : Gh} {own : Nat → Option Nat} {w : World} (h : own b = some i) (hi : i < n) : frzH n G own w b = G.H b := by
  unfold frzH
  cases hb : G.H b with
  | some l => rfl
  | none =>
    have : ¬ n ≤ i := by omega
    simp only [h, this, if_false]
theorem frzH_new {n b i : Nat} {G : Gh} {own : Nat → Option Nat} {w : World} {arr : Array Value} {t fr : _} (hb : G.H b = none) (h : own b = some i) (hi : n ≤ i) (hw : w.heap[b]? = some (.cells arr t fr)) : frzH n G own w b = some arr.toList := by
  unfold frzH
  rw [hb]
  simp only [h, hi, if_true, hw]

theorem Gh.cut_le_frz (n : Nat) (G : Gh) (own : Nat → Option Nat) (w : World) : (G.cut n).le (G.frz n own w) :=
  ⟨fun _ _ _ h => h, fun b l h => ⟨[], by rw [List.append_nil]; exact frzH_some h⟩, fun _ _ h => h⟩

theorem Frz.VR {T e : TypeId} {w0 : World} {G : Gh} {own : Nat → Option Nat} {st' : Sto} {w : World} {n : Nat} (hR : RelO T e w0 G own st' w) {a b : AV} (h : Frz st' n a b) : ∀ v, VR G a v → VR (G.frz n own w) b v := by
  have hle := Gh.cut_le_frz n G own w
  induction h with
  | old a h => intro v k; exact (k.cut h).mono hle
  | ip cs ds hl h ih =>
    intro v k
    cases k with
    | ip _ b o l hH hl2 hh =>
      refine .ip ds b o l (frzH_some hH) (by omega) fun j x v hx hv => ?_
      have hj : j < cs.length := by have := (List.getElem?_eq_some_iff.1 hx).1; omega
      exact ih j _ x (List.getElem?_eq_getElem hj) hx v (hh j _ v (List.getElem?_eq_getElem hj) hv)
  | is row row' len tok hl h ih =>
    intro v k
    cases k with
    | is _ _ _ b o cap l hH hl2 hc ht hh h1 =>
      refine .is row' len _ b o cap l (frzH_some hH) (by omega) hc ?_ (fun j x v hx hv => ?_) fun j v hj hv => h1 j v (by omega) hv
      · rw [hl]
        cases tok with
        | no => trivial
        | full => exact ht
        | cut n => exact ht
        | tip i g es =>
          by_cases hi : i < n
          · simp only [Tok.strip, hi, if_true]
            obtain ⟨⟨m, x, hx⟩, ht⟩ := ht
            refine ⟨⟨m, x, by simp only [Gh.frz, Gh.cut, hi, if_true]; exact hx⟩, ?_⟩
            rcases ht with ht | ⟨h1, h2⟩
            · exact .inl ht
            · exact .inr ⟨by simp only [Gh.frz, Gh.cut, hi, if_true]; exact h1, h2⟩
          · simp only [Tok.strip, hi, if_false]; trivial
      · have hj : j < row.length := by have := (List.getElem?_eq_some_iff.1 hx).1; omega
        exact ih j _ x (List.getElem?_eq_getElem hj) hx v (hh j _ v (List.getElem?_eq_getElem hj) hv)
    | is0 a cap =>
      obtain rfl : row' = [] := List.eq_nil_of_length_eq_zero (by simpa using hl)
      exact .is0 a cap
  | ms id g off len es cs row' fz hn ho hb hl h ih =>
    intro v k
    cases k with
    | ms _ _ _ _ _ b o cap a hh hc ha =>
      by_cases h0 : cap = 0
      · subst h0
        obtain rfl : len = 0 := by omega
        obtain rfl : row' = [] := List.eq_nil_of_length_eq_zero (by simpa using hl)
        exact .is0 a 0
      · rcases ha with ha | ⟨rfl, _⟩
        · exact absurd ha h0
        · obtain ⟨b2, o2, arr, t, fr, e1, e2, e3, e4, e5, e6, e7, e8, e9⟩ := hR.obj id _ ho
          rw [hh] at e1
          cases e1
          have hal : arr.toList.length = arr.size := by simp
          have hgt : ∀ j v, j < row'.length → arr.toList[o + off + j]? = some v → ((arr.toList.drop o).take cs.length)[off + j]? = some v := fun j v hj hv => by
            rw [List.getElem?_take_of_lt (by omega), List.getElem?_drop, show o + (off + j) = o + off + j by omega]; exact hv
          refine .is row' len .no b (o + off) cap arr.toList (frzH_new e3 e2 hn e5) (by omega) hc trivial (fun j x v hx hv => ?_) fun j v hj hv => e8 v (List.mem_of_getElem? (hgt j v hj hv))
          have hj : j < row'.length := (List.getElem?_eq_some_iff.1 hx).1
          have hj2 : off + j < cs.length := by omega
          exact ih j _ x (List.getElem?_eq_getElem hj2) hx v (e7.at_ (off + j) _ v (List.getElem?_eq_getElem hj2) (hgt j v hj hv))
  | ifc t a b h ih =>
    intro v k
    cases k with
    | ifc _ _ v k => exact .ifc t b v (ih v k)
  | agg cs ds hl h ih =>
    intro v k
    cases k with
    | agg _ xs hx hh =>
      refine .agg ds xs (by omega) fun j x v hx hv => ?_
      have hj : j < cs.length := by have := (List.getElem?_eq_some_iff.1 hx).1; omega
      exact ih j _ x (List.getElem?_eq_getElem hj) hx v (hh j _ v (List.getElem?_eq_getElem hj) hv)
  | tup cs ds hl h ih =>
    intro v k
    cases k with
    | tup _ xs hx hh =>
      refine .tup ds xs (by omega) fun j x v hx hv => ?_
      have hj : j < cs.length := by have := (List.getElem?_eq_some_iff.1 hx).1; omega
      exact ih j _ x (List.getElem?_eq_getElem hj) hx v (hh j _ v (List.getElem?_eq_getElem hj) hv)

open Classical in
/-- The same, what is handed back frozen. -/
theorem gcF_sound (hR : Rel A.bld A.u8 w0 G st w) {out : Out} {e : Ending} {w' : World} (h : RetOK A w0 G out st' e w') : RetOK A w0 G (gcF st (out, st')).1 (gcF st (out, st')).2 e w' := by
  cases out with
  | pan v => exact gc_sound hR h
  | ret v =>
    by_cases hc : (∃ b, Frz st' st.length v b) ∧ st.length ≤ st'.length ∧ Kept st.length st st'
    · obtain ⟨⟨b, hF⟩, h2, h3⟩ := hc
      rw [gcF_eq hF h2 h3]
      cases e with
      | panicked ch => obtain ⟨G', k1, k2, x, v, hx, _⟩ := h; cases hx
      | outgrown => exact h.elim
      | returned v =>
        obtain ⟨G', k1, ⟨own, k2⟩, x, hx, k3⟩ := h
        cases hx
        have hold : ∀ i ob, i < st.length → st'[i]? = some ob → ob.old st.length = true := by
          intro i ob hi hob
          rcases h3 i hi with h5 | ⟨o, h5, h6⟩
          · exact hR.olds i ob (h5.symm.trans hob)
          · rw [h5] at hob; cases hob; exact h6
        have kc := k2.cut (n := st.length) h2 hold
        have hle := Gh.cut_le_frz st.length G' own w'
        refine ⟨G'.frz st.length own w', (Gh.cut_le k1 hR.dom_lt).trans hle, ⟨ownCut st.length own, ?_⟩, _, rfl, hF.VR k2 _ k3⟩
        refine ⟨kc.below, fun b l hb => ?_, kc.size, kc.dom, kc.ownlt, fun i ob hi => (kc.obj i ob hi).frame hle fun b hb => ⟨rfl, hb, ?_⟩⟩
        · simp only [Gh.frz, frzH] at hb
          split at hb
          · rename_i l' hl'
            cases hb
            exact k2.prot b l hl'
          · split at hb
            · split at hb
              · split at hb
                · rename_i arr t fr hw
                  cases hb
                  exact ⟨arr, t, fr, [], hw, by simp⟩
                · cases hb
              · cases hb
            · cases hb
        · unfold ownCut at hb
          split at hb
          · rename_i j hj
            split at hb
            · rename_i hjl
              exact frzH_old hj hjl
            · cases hb
          · cases hb
    · have : gcF st (.ret v, st') = gc st (.ret v, st') := by
        unfold gcF
        show (if h : (∃ b, Frz st' st.length v b) ∧ st.length ≤ st'.length ∧ Kept st.length st st' then (Out.ret h.1.choose, st'.take st.length) else gc st (.ret v, st')) = _
        rw [dif_neg hc]
      rw [this]
      exact gc_sound hR h

theorem gcK_sound {m : Nat} (hR : Rel A.bld A.u8 w0 G st w) {out : Out} {e : Ending} {w' : World} (h : RetOK A w0 G out st' e w') : RetOK A w0 G (gcK m st (out, st')).1 (gcK m st (out, st')).2 e w' := by
  match m with
  | 0 => exact gc_sound hR h
  | 1 => exact gcT_sound hR h
  | 2 => exact h
  | _ + 3 => exact gcF_sound hR h

end

end Go.St
