/- What is made in a call and forgotten behind it. -/
import Derived.Test.YtiiooldjegoikaaDoorStS12
namespace Go.St
open Go.RowKit
set_option linter.unusedVariables false
set_option linter.unusedSimpArgs false

theorem VR.older {G : Gh} {n : Nat} (hd : ∀ i g x, G.ρ i g = some x → i < n) {a : AV} {v : Value} (h : VR G a v) : a.old n = true := by
  induction h with
  | any v => rfl
  | one v h => rfl
  | bool b => rfl
  | int k n => rfl
  | str s => rfl
  | nilp => rfl
  | ip cs b o l hH hl hh ih => simp only [AV.old]; exact all_at (G := G) hl ih
  | mp id g off b o hh => simp only [AV.old, decide_eq_true_eq]; exact hd _ _ _ hh
  | nils => rfl
  | is row len tok b o cap l hH hl hc ht hh h1 ih =>
    simp only [AV.old, Bool.and_eq_true]
    refine ⟨all_at (G := G) hl ih, ?_⟩
    cases tok with
    | no => rfl
    | full => rfl
    | cut n => rfl
    | tip i g es => obtain ⟨⟨m, x, hx⟩, _⟩ := ht; simp only [Tok.old, decide_eq_true_eq]; exact hd _ _ _ hx
  | is0 a cap => rfl
  | ms id g off len es b o cap a hh hc ha => simp only [AV.old, decide_eq_true_eq]; exact hd _ _ _ hh
  | nilm => rfl
  | mr id b hh => simp only [AV.old, decide_eq_true_eq]; exact hd _ _ _ hh
  | fn f as cs xs ys hf hx hy hh hk ih ik =>
    simp only [AV.old, Bool.and_eq_true]
    refine ⟨⟨all_at' hx ih, all_at' hy ik⟩, ?_⟩
    trivial
  | nilfn => rfl
  | ifc t a v hh ih => simpa [AV.old] using ih
  | nili => rfl
  | agg as xs hx hh ih => simp only [AV.old]; exact all_at' hx ih
  | tup as xs hx hh ih => simp only [AV.old]; exact all_at' hx ih
  | it id b hh => simp only [AV.old, decide_eq_true_eq]; exact hd _ _ _ hh
  | yl id b hh => simp only [AV.old, decide_eq_true_eq]; exact hd _ _ _ hh

theorem VRs.older {G : Gh} {n : Nat} (hd : ∀ i g x, G.ρ i g = some x → i < n) {as : List AV} {vs : List Value} (h : VRs G as vs) : olds n as = true := by
  rw [olds_iff]
  intro a ha
  obtain ⟨j, hj, rfl⟩ := List.getElem_of_mem ha
  obtain ⟨v, _, hv⟩ := h.get (List.getElem?_eq_getElem hj)
  exact hv.older hd

theorem VRs.cut {G : Gh} {n : Nat} {as : List AV} {vs : List Value} (h : VRs G as vs) (ho : olds n as = true) : VRs (G.cut n) as vs := by
  rw [olds_iff] at ho
  exact ⟨h.len, fun j a v ha hv => (h.at_ j a v ha hv).cut (ho a (List.mem_of_getElem? ha))⟩

theorem ObR.older {T e : TypeId} {G : Gh} {own : Nat → Option Nat} {w : World} {i n : Nat} {ob : Ob} (hd : ∀ i g x, G.ρ i g = some x → i < n) (h : ObR T e G own w i ob) : ob.old n = true := by
  cases ob with
  | cells g cs fz =>
    obtain ⟨b, o, arr, t, fr, h1, h2, h3, h4, h5, h6, h7, h9, h8⟩ := h
    exact h7.older hd
  | map es =>
    obtain ⟨b, arr, h1, h2, h3, h4, h5⟩ := h
    simp only [Ob.old, List.all_eq_true, Bool.and_eq_true]
    intro x hx
    obtain ⟨j, hj, rfl⟩ := List.getElem_of_mem hx
    have hj' : j < arr.size := by omega
    obtain ⟨k1, k2, _⟩ := h5 j _ _ (List.getElem?_eq_getElem hj) (Array.getElem?_eq_getElem hj')
    exact ⟨k1.older hd, k2.older hd⟩
  | loop l =>
    obtain ⟨b, r, tmps, h1, h2, h3, h4, h5, h6, h7, h8⟩ := h
    exact h7.older hd
  | _ => rfl

def ownCut (n : Nat) (own : Nat → Option Nat) : Nat → Option Nat := fun b => match own b with | some i => if i < n then some i else none | none => none

theorem ownCut_some {n i b : Nat} {own : Nat → Option Nat} (h : own b = some i) (hi : i < n) : ownCut n own b = some i := by simp [ownCut, h, hi]

theorem ObR.cut {T e : TypeId} {G : Gh} {own : Nat → Option Nat} {w : World} {i n : Nat} {ob : Ob} (h : ObR T e G own w i ob) (hi : i < n) (ho : ob.old n = true) : ObR T e (G.cut n) (ownCut n own) w i ob := by
  have hρ : ∀ g x, G.ρ i g = some x → (G.cut n).ρ i g = some x := fun g x hx => by simp [Gh.cut, hi, hx]
  cases ob with
  | dead => trivial
  | cells g cs fz =>
    obtain ⟨b, o, arr, t, fr, h1, h2, h3, h4, h5, h6, h7, h9, h8⟩ := h
    exact ⟨b, o, arr, t, fr, hρ _ _ h1, ownCut_some h2 hi, h3, h4, h5, h6, h7.cut ho, h9, h8⟩
  | tip g =>
    obtain ⟨b, l, arr, t, fr, h1, h2, h3, h4, h5, h6⟩ := h
    exact ⟨b, l, arr, t, fr, hρ _ _ h1, ownCut_some h2 hi, h3, h4, h5, h6⟩
  | bld s =>
    obtain ⟨b, h1, h2, p, v, hp, hb, hH, hv⟩ := h
    refine ⟨b, hρ _ _ h1, ownCut_some h2 hi, p, v, hp, hb, hH, ?_⟩
    rcases hv with hv | ⟨g, cap, cur, fz, hv, hg, r⟩
    · exact .inl hv
    · exact .inr ⟨g, cap, cur, fz, hv, ownCut_some hg hi, r⟩
  | iter s pos =>
    obtain ⟨b, h1, h2, h3⟩ := h
    exact ⟨b, hρ _ _ h1, ownCut_some h2 hi, h3⟩
  | map es =>
    obtain ⟨b, arr, h1, h2, h3, h4, h5⟩ := h
    simp only [Ob.old, List.all_eq_true, Bool.and_eq_true] at ho
    refine ⟨b, arr, hρ _ _ h1, ownCut_some h2 hi, h3, h4, fun j x y hx hy => ?_⟩
    obtain ⟨k1, k2, k3⟩ := h5 j x y hx hy
    obtain ⟨o1, o2⟩ := ho x (List.mem_of_getElem? hx)
    exact ⟨k1.cut o1, k2.cut o2, k3⟩
  | loop l =>
    obtain ⟨b, r, tmps, h1, h2, h3, h4, h5, h6, h7, h8⟩ := h
    exact ⟨b, r, tmps, hρ _ _ h1, hρ _ _ h2, ownCut_some h3 hi, ownCut_some h4 hi, h5, h6, h7.cut ho, h8⟩

theorem RelO.cut {T e : TypeId} {w0 : World} {G : Gh} {own : Nat → Option Nat} {st : Sto} {w : World} {n : Nat} (h : RelO T e w0 G own st w) (hn : n ≤ st.length) (ho : ∀ i ob, i < n → st[i]? = some ob → ob.old n = true) :
    RelO T e w0 (G.cut n) (ownCut n own) (st.take n) w := by
  refine ⟨h.below, h.prot, h.size, fun i g x hx => ?_, fun b i hb => ?_, fun i ob hi => ?_⟩
  · simp only [Gh.cut] at hx
    split at hx
    · rename_i hi
      obtain ⟨ob, k1, k2⟩ := h.dom i g x hx
      exact ⟨ob, by rw [List.getElem?_take, if_pos hi]; exact k1, k2⟩
    · cases hx
  · unfold ownCut at hb
    split at hb
    · rename_i j hj
      exact h.ownlt b j hj
    · cases hb
  · rw [List.getElem?_take] at hi
    split at hi
    · rename_i hin
      exact (h.obj i ob hi).cut hin (ho i ob hin hi)
    · cases hi

theorem Gh.cut_le {G0 G : Gh} {n : Nat} (h : G0.le G) (hd : ∀ i g x, G0.ρ i g = some x → i < n) : G0.le (G.cut n) :=
  ⟨fun i g x hx => by simp [Gh.cut, hd i g x hx, h.ρ _ _ _ hx], h.H, h.Z⟩

section
variable {P : Program} {A : AProg} {w0 : World} {G : Gh} {st st' : Sto} {w : World} {R : Type}

theorem Rel.dom_lt (hR : Rel A.bld A.u8 w0 G st w) : ∀ i g x, G.ρ i g = some x → i < st.length := by
  obtain ⟨own, h⟩ := hR
  intro i g x hx
  obtain ⟨ob, ho, _⟩ := h.dom i g x hx
  exact (List.getElem?_eq_some_iff.1 ho).1

theorem Rel.olds (hR : Rel A.bld A.u8 w0 G st w) : ∀ (i : Nat) (ob : Ob), st[i]? = some ob → ob.old st.length = true := by
  have hd := hR.dom_lt
  obtain ⟨own, h⟩ := hR
  exact fun i ob hi => (h.obj i ob hi).older hd

/-- What a call leaves behind, the forgotten forgotten. -/
theorem gc_sound (hR : Rel A.bld A.u8 w0 G st w) {out : Out} {e : Ending} {w' : World} (h : RetOK A w0 G out st' e w') : RetOK A w0 G (gc st (out, st')).1 (gc st (out, st')).2 e w' := by
  unfold gc
  split
  · rename_i hc
    obtain ⟨h1, h2, h3⟩ := hc
    have key : ∀ {G' : Gh}, G.le G' → Rel A.bld A.u8 w0 G' st' w' → G.le (G'.cut st.length) ∧ Rel A.bld A.u8 w0 (G'.cut st.length) (st'.take st.length) w' := by
      intro G' k1 ⟨own, k2⟩
      refine ⟨Gh.cut_le k1 hR.dom_lt, _, k2.cut h2 fun i ob hi hob => ?_⟩
      rcases h3 i hi with h3 | ⟨o, h3, h4⟩
      · exact hR.olds i ob (h3.symm.trans hob)
      · rw [h3] at hob; cases hob; exact h4
    cases e with
    | returned v =>
      obtain ⟨G', k1, k2, x, rfl, k3⟩ := h
      obtain ⟨m1, m2⟩ := key k1 k2
      exact ⟨_, m1, m2, _, rfl, k3.strip.cut h1⟩
    | panicked ch =>
      obtain ⟨G', k1, k2, x, v, rfl, rfl, k3⟩ := h
      obtain ⟨m1, m2⟩ := key k1 k2
      exact ⟨_, m1, m2, _, v, rfl, rfl, k3.strip.cut h1⟩
    | outgrown => exact h.elim
  · exact h

/-- The same, the tip of what is handed back kept. -/
theorem gcT_sound (hR : Rel A.bld A.u8 w0 G st w) {out : Out} {e : Ending} {w' : World} (h : RetOK A w0 G out st' e w') : RetOK A w0 G (gcT st (out, st')).1 (gcT st (out, st')).2 e w' := by
  unfold gcT
  split
  · rename_i row len id g es hout
    simp only at hout
    subst hout
    split
    · rename_i hc
      obtain ⟨h1, h2, h3, h4, h5⟩ := hc
      simp only at h3 h4
      show RetOK A w0 G (.ret (.is (strips st.length row) len (.tip st.length 0 es))) (st'.take st.length ++ [.tip 0]) e w'
      cases e with
      | panicked ch => obtain ⟨G', k1, k2, x, v, hx, _⟩ := h; cases hx
      | outgrown => exact h.elim
      | returned v =>
        obtain ⟨G', k1, ⟨own, k2⟩, x, hx, k3⟩ := h
        cases hx
        have hold : ∀ i ob, i < st.length → st'[i]? = some ob → ob.old st.length = true := by
          intro i ob hi hob
          rcases h5 i hi with h5 | ⟨o, h5, h6⟩
          · exact hR.olds i ob (h5.symm.trans hob)
          · rw [h5] at hob; cases hob; exact h6
        have kc := k2.cut (n := st.length) h4 hold
        obtain ⟨b0, l0, arr, t, fr, o1, o2, o3, o4, o5, o6⟩ := k2.obj id _ h3
        have hlt : (st'.take st.length).length = st.length := by rw [List.length_take]; omega
        have hle : (G'.cut st.length).le ⟨fun i g' => if i < st.length then G'.ρ i g' else if i = st.length ∧ g' = 0 then some (b0, l0.length) else none, G'.H, G'.Z⟩ := by
          refine ⟨fun i g' x hx => ?_, fun b l hl => ⟨[], by simpa [Gh.cut] using hl⟩, fun _ _ h => h⟩
          simp only [Gh.cut] at hx
          split at hx
          · rename_i hi
            simp only [hi, if_true]
            exact hx
          · cases hx
        refine ⟨⟨fun i g' => if i < st.length then G'.ρ i g' else if i = st.length ∧ g' = 0 then some (b0, l0.length) else none, G'.H, G'.Z⟩, ⟨fun i g' x hx => ?_, k1.H, k1.Z⟩,
          ⟨fun b => match own b with | some i => if i < st.length then some i else if i = id then some st.length else none | none => none, ?_⟩, _, rfl, ?_⟩
        · simp only [hR.dom_lt i g' x hx, if_true]
          exact k1.ρ _ _ _ hx
        · skip
          refine ⟨kc.below, kc.prot, kc.size, fun i g' x hx => ?_, fun b i hb => ?_, fun i ob hi => ?_⟩
          · simp only at hx
            split at hx
            · rename_i hi
              obtain ⟨ob, e1, e2⟩ := k2.dom i g' x hx
              exact ⟨ob, by rw [List.getElem?_append_left (by omega), List.getElem?_take, if_pos hi]; exact e1, e2⟩
            · split at hx
              · rename_i he
                obtain ⟨rfl, rfl⟩ := he
                exact ⟨.tip 0, by rw [List.getElem?_append_right (by omega), hlt]; simp, Nat.le_refl _⟩
              · cases hx
          · split at hb
            · rename_i j hj
              exact k2.ownlt b j hj
            · cases hb
          · by_cases hin : i < st.length
            · rw [List.getElem?_append_left (by omega)] at hi
              refine (kc.obj i ob hi).frame hle fun b hb => ⟨rfl, ?_, rfl⟩
              unfold ownCut at hb
              split at hb
              · rename_i j hj
                split at hb
                · rename_i hjl
                  cases hb
                  simp only [hj, hjl, if_true]
                · cases hb
              · cases hb
            · have hlen := (List.getElem?_eq_some_iff.1 hi).1
              rw [List.length_append, hlt] at hlen
              simp only [List.length_cons, List.length_nil] at hlen
              obtain rfl : i = st.length := by omega
              rw [List.getElem?_append_right (by omega), hlt] at hi
              simp only [Nat.sub_self, List.getElem?_cons_zero, Option.some.injEq] at hi
              subst hi
              refine ⟨b0, l0, arr, t, fr, by simp, ?_, o3, o4, o5, o6⟩
              have hid : ¬ id < st.length := by omega
              simp only [o2, hid, if_false, if_true]
        · skip
          cases k3 with
          | is _ _ _ b o cap l hH hl hcap ht hh hone =>
            obtain ⟨_, ht⟩ := ht
            have hsl := strips_len st.length row
            refine .is _ len _ b o cap l hH (by rw [hsl]; exact hl) hcap ⟨⟨0, (b0, l0.length), by simp⟩, ?_⟩ (fun j a v ha hv => ?_) (fun j v hj hv => hone j v (by rwa [hsl] at hj) hv)
            · rw [hsl]
              rcases ht with ht | ⟨t1, t2, m, t3, t4⟩
              · exact .inl ht
              · rw [o1] at t1
                exact .inr ⟨by simp only [Nat.lt_irrefl, if_false, and_self, if_true]; exact t1, t2, m, t3, t4⟩
            · have ho := (olds_iff _ _).1 h1 a (List.mem_of_getElem? ha)
              obtain ⟨c, hc, rfl⟩ := strips_get st.length row j a ha
              exact (((hh j c v hc hv).strip).cut ho).mono hle
    · exact gc_sound hR h
  · exact gc_sound hR h

theorem gcK_sound {keep : Bool} (hR : Rel A.bld A.u8 w0 G st w) {out : Out} {e : Ending} {w' : World} (h : RetOK A w0 G out st' e w') : RetOK A w0 G (gcK keep st (out, st')).1 (gcK keep st (out, st')).2 e w' := by
  cases keep with
  | true => exact gcT_sound hR h
  | false => exact gc_sound hR h

end

end Go.St
