/- The functions that are told by rules of their own. -/
import Derived.Test.YtnjpbbiolngfkaaDoorStS17
import Derived.Shelf.Strings.Search3
import Derived.Shelf.Strings.Search1
import Derived.Shelf.Strconv.Itoa3
import Derived.Shelf.Strconv.ErrVarAll
import Derived.WalkSmall
namespace Go.St
open Go.RowKit Go.Shelf Go.Proofs
set_option linter.unusedVariables false
set_option linter.unusedSimpArgs false

section
variable {P : Program} {A : AProg} {w0 : World} {G : Gh} {st st' : Sto} {w : World} {R : Type}

theorem g_bld {own : Nat → Option Nat} (hR : RelO A.bld A.u8 w0 G own st w) {i : Nat} {s : ByteArray} (hi : st[i]? = some (.bld s)) {pv : Value} (hp : VR G (.mp i 0 0) pv) :
    ∃ b p v, pv = .pointer (some ⟨b, 0, none⟩) ∧ BAt A.bld A.u8 w b p v s ∧ ∀ (w' : World) (s' : ByteArray), BLeft A.bld A.u8 w w' b v s' → Rel A.bld A.u8 w0 G (st.set i (.bld s')) w' := by
  obtain ⟨b, h1, h2, p, v, h3, h4, h5, h6⟩ := hR.obj i _ hi
  cases hp with
  | mp _ _ _ b' o' hh =>
  rw [h1] at hh
  cases hh
  have hbuf : Buf A.u8 w v s := by
    rcases h6 with h6 | ⟨g, cap, cur, fz, k1, k2, k3, k4, k5, k6⟩
    · exact .inl h6
    · exact .inr ⟨g, cap, cur, fz, k1, k5, k6⟩
  have hne : v.ownBlock ≠ some b := by
    rcases h6 with ⟨rfl, _⟩ | ⟨g, cap, cur, fz, rfl, k2, k3, _⟩
    · simp [Value.ownBlock]
    · simpa [Value.ownBlock] using k3
  have hvo : ∀ k, v.ownBlock = some k → own k = some i ∧ G.H k = none := by
    intro k hk
    rcases h6 with ⟨rfl, _⟩ | ⟨g, cap, cur, fz, rfl, k2, k3, k4, _⟩
    · cases hk
    · cases hk; exact ⟨k2, k4⟩
  refine ⟨b, p, v, rfl, ⟨h4, h3, hbuf, hne⟩, fun w' s' hl => ?_⟩
  obtain ⟨p', v', ⟨b1, b2, b3, b4⟩, ht, hown⟩ := hl
  refine ⟨fun k => if v'.ownBlock = some k then some i else own k, hR.upd (S := fun k => k = b ∨ v.ownBlock = some k ∨ w.heap.size ≤ k) i (.bld s') ht.os ht.tape ht.output ht.size (fun k hk => ?_) (fun k hk => ?_) (Gh.le.refl G) (fun _ _ => rfl) (fun k l hk hl => ?_) (fun k n hn => ?_)
    (.inl ⟨rfl, _, hi, Nat.le_refl _⟩) (fun k => ?_) (fun j g x hx => .inl hx) ?_⟩
  · by_cases hkl : k < w.heap.size
    · exact ht.other k hkl fun h => hk (h.imp id .inl)
    · exact absurd (.inr (.inr (by omega))) hk
  · rcases hk with rfl | hk | hk
    · exact ⟨(hR.ownlt _ _ h2).1, .inr h2⟩
    · exact ⟨(hR.ownlt _ _ (hvo k hk).1).1, .inr (hvo k hk).1⟩
    · refine ⟨Nat.le_trans hR.below.size hk, .inl ?_⟩
      cases ho : own k with
      | none => rfl
      | some j => have := (hR.ownlt k j ho).2; omega
  · rcases hk with rfl | hk | hk
    · rw [h5] at hl; cases hl
    · rw [(hvo k hk).2] at hl; cases hl
    · obtain ⟨arr, t, fr, m, q, _⟩ := hR.prot k l hl
      have := (Array.getElem?_eq_some_iff.1 q).1
      omega
  · obtain ⟨arr, t, fr, q1, q2⟩ := hR.size k n hn
    obtain ⟨arr', t', fr', q3, q4⟩ := ht.sized k arr t fr q1
    exact .inr ⟨arr', t', fr', q3, q4.trans q2⟩
  · by_cases hk : v'.ownBlock = some k
    · refine .inr ⟨?_, .inl (by simp [hk]), ?_⟩
      · rcases hown k hk with h | h
        · exact .inr (.inl h)
        · exact .inr (.inr h)
      · exact b3.lt hk
    · exact .inl (by simp [hk])
  · refine ⟨b, h1, ?_, p', v', b2, b1, h5, ?_⟩
    · simp only
      rw [if_neg b4]
      exact h2
    · rcases b3 with b3 | ⟨g, cap, cur, fz, rfl, c1, c2⟩
      · exact .inl b3
      · refine .inr ⟨g, cap, cur, fz, rfl, by simp [Value.ownBlock], fun e => b4 (by subst e; rfl), ?_, c1, c2⟩
        rcases hown g rfl with h | h
        · exact (hvo g h).2
        · cases hG : G.H g with
          | none => rfl
          | some l =>
            obtain ⟨arr, t, fr, m, q, _⟩ := hR.prot g l hG
            have := (Array.getElem?_eq_some_iff.1 q).1
            omega

/-- What a program must bear for the rules: each of its numbers stands for the function that the rule tells of. -/
structure BldLay (P : Program) (A : AProg) (ρ : Ren) : Prop where
  bld : A.bld = ρ.t 72
  u8 : A.u8 = ρ.t 5
  extra : Builder.Extra P ρ

/-- What is laid behind all turns nothing. -/
theorem rel_ext {T e : TypeId} {w' : World} (hR : Rel T e w0 G st w) (hb : Below w.heap.size w w') : Rel T e w0 G st w' := by
  obtain ⟨own, h⟩ := hR
  have lt : ∀ {k : Nat} {o : Obj}, w.heap[k]? = some o → k < w.heap.size := fun h => (Array.getElem?_eq_some_iff.1 h).1
  refine ⟨own, h.below.trans ⟨hb.os, hb.tape, hb.output, hb.size, fun k hk => hb.block k (Nat.lt_of_lt_of_le hk h.below.size)⟩, fun b l hl => ?_, fun b n hn => ?_, h.dom, fun b i hi => ?_, fun i ob hi => ?_⟩
  · obtain ⟨arr, t, fr, m, h1, h2⟩ := h.prot b l hl
    exact ⟨arr, t, fr, m, (hb.block b (lt h1)).trans h1, h2⟩
  · obtain ⟨arr, t, fr, h1, h2⟩ := h.size b n hn
    exact ⟨arr, t, fr, (hb.block b (lt h1)).trans h1, h2⟩
  · have := h.ownlt b i hi
    exact ⟨this.1, Nat.lt_of_lt_of_le this.2 hb.size⟩
  · exact (h.obj i ob hi).frame (Gh.le.refl G) fun b hbo => ⟨hb.block b (h.ownlt b i hbo).2, hbo, rfl⟩
theorem var_ext {n : String} {cs : Array Value} (hv : w0.var? P n = some cs) (h : Below w0.heap.size w0 w) : w.var? P n = some cs := by
  have h0 := hv
  unfold World.var? at h0
  cases hg : P.globalNamed n with
  | none => simp [hg] at h0
  | some g =>
    rw [hg] at h0
    simp only [Option.bind_some] at h0
    cases hh : w0.heap[g]? with
    | none => simp [hh] at h0
    | some o => exact var?_below h hg (Array.getElem?_eq_some_iff.1 hh).1 hv

def PrimLay (P : Program) (A : AProg) (w0 : World) (f : FuncId) : Prim → Prop
  | .bldByte => ∃ ρ, BldLay P A ρ ∧ Lays.n167 P ρ ∧ f = ρ.f 167
  | .bldStr => ∃ ρ, BldLay P A ρ ∧ Lays.n166 P ρ ∧ f = ρ.f 166
  | .bldString => ∃ ρ, BldLay P A ρ ∧ Lays.n169 P ρ ∧ f = ρ.f 169
  | .index => ∃ ρ, Lays.n143 P ρ ∧ f = ρ.f 143 ∧ ∃ m, w0.cell? ⟨ρ.g 1, 0, none⟩ = some (.int .i64 m)
  | .indexByte => ∃ ρ, Lays.n217 P ρ ∧ f = ρ.f 217
  | .itoa => ∃ ρ, LaysM.n171 P ρ ∧ f = ρ.f 171 ∧ Lib.TabIs P w0 "internal/strconv.uint64pow10" .u64 Lib.pow10Tab
  | .atoi t => ∃ ρ, LaysC.n172 P ρ ∧ f = ρ.f 172 ∧ t = ρ.t 168 ∧ (∃ tp p, w0.var? P "strconv.ErrSyntax" = some #[.iface tp p]) ∧ (∃ tp p, w0.var? P "strconv.ErrRange" = some #[.iface tp p])
  | _ => False

theorem op_enter {f : FuncId} {fn : Func} {c : Code} {vs : Array Value} (hf : P.funcs[f]? = some fn) (hn : (fn.name == "runtime.NumGoroutine") = false) (hb : fn.body = some c) {out : Out} (h : Calls P f vs w (RetOK A w0 G out st')) : OpOK P A w0 G out st' ((callFunc f vs).run P w) := by
  have : (callFunc f vs).run P w = .ok (.enter f vs) w := by
    have h1 : fn.name ≠ "runtime.NumGoroutine" := by simpa using hn
    simp [callFunc, hf, h1, hb]
  rw [this]
  exact h

theorem args1 {x : AV} {vs : Array Value} (h : VRs G [x] vs.toList) : ∃ a, vs = #[a] ∧ VR G x a := by
  obtain ⟨a, l, e1, h1, hh⟩ := h.head
  have : l = [] := List.eq_nil_of_length_eq_zero (by rw [← hh.len]; rfl)
  subst this
  exact ⟨a, by apply Array.ext'; simpa using e1, h1⟩
theorem args2 {x y : AV} {vs : Array Value} (h : VRs G [x, y] vs.toList) : ∃ a b, vs = #[a, b] ∧ VR G x a ∧ VR G y b := by
  obtain ⟨a, l, e1, h1, hh⟩ := h.head
  obtain ⟨b, l, e2, h2, hh⟩ := hh.head
  have : l = [] := List.eq_nil_of_length_eq_zero (by rw [← hh.len]; rfl)
  subst this
  subst e2
  exact ⟨a, b, by apply Array.ext'; simpa using e1, h1, h2⟩

theorem prim_sound {f : FuncId} {p : Prim} (hL : PrimLay P A w0 f p) {args : List AV} {out : Out} {vs : Array Value} (h : primA p args st = some (out, st')) (hR : Rel A.bld A.u8 w0 G st w) (hv : VRs G args vs.toList) : OpOK P A w0 G out st' ((callFunc f vs).run P w) := by
  obtain ⟨own, hRo⟩ := hR
  unfold primA at h
  split at h
  · exact hL.elim
  · rename_i id c
    obtain ⟨ρ, ⟨e1, e2, X⟩, L, rfl⟩ := hL
    split at h
    case isFalse => cases h
    rename_i hcb
    obtain ⟨s1, h1, h2⟩ := bind_some h
    cases h2
    obtain ⟨pv, cv, rfl, hp, hc⟩ := args2 hv
    cases hc
    unfold bldAdd at h1
    split at h1
    · rename_i s hid
      split at h1
      · rename_i hl
        cases h1
        obtain ⟨b, p, v, rfl, hB, hleft⟩ := g_bld hRo hid hp
        rw [e1, e2] at hB hleft
        refine op_enter L.f167 (by kernel_rfl) rfl ((b_writeByte L X hB c hcb hl).mono fun en w' he => ?_)
        obtain ⟨rfl, he⟩ := he
        have := hleft w' _ he
        rw [← e1, ← e2] at this
        exact ⟨G, Gh.le.refl G, this, _, rfl, .nili⟩
      · cases h1
    · cases h1
  · rename_i id t
    obtain ⟨ρ, ⟨e1, e2, X⟩, L, rfl⟩ := hL
    obtain ⟨s1, h1, h2⟩ := bind_some h
    cases h2
    obtain ⟨pv, cv, rfl, hp, hc⟩ := args2 hv
    cases hc
    unfold bldAdd at h1
    split at h1
    · rename_i s hid
      split at h1
      · rename_i hl
        cases h1
        obtain ⟨b, p, v, rfl, hB, hleft⟩ := g_bld hRo hid hp
        rw [e1, e2] at hB hleft
        refine op_enter L.f166 (by kernel_rfl) rfl ((b_writeString L X hB t hl).mono fun en w' he => ?_)
        obtain ⟨rfl, he⟩ := he
        have := hleft w' _ he
        rw [← e1, ← e2] at this
        exact ⟨G, Gh.le.refl G, this, _, rfl, VRs.tup (vs := #[_, _]) (VRs.cons (.int _ _) (VRs.one .nili))⟩
      · cases h1
    · cases h1
  · rename_i id
    obtain ⟨ρ, ⟨e1, e2, X⟩, L, rfl⟩ := hL
    obtain ⟨s, h1, h2⟩ := bind_some h
    cases h2
    obtain ⟨pv, rfl, hp⟩ := args1 hv
    unfold bldGet at h1
    split at h1
    · rename_i s' hid
      cases h1
      obtain ⟨b, p, v, rfl, hB, hleft⟩ := g_bld hRo hid hp
      rw [e1, e2] at hB hleft
      refine op_enter L.f169 (by kernel_rfl) rfl ((b_string L X hB).mono fun en w' he => ?_)
      obtain ⟨rfl, he⟩ := he
      have := hleft w' _ he
      rw [← e1, ← e2] at this
      have hset : st.set id (.bld s) = st := by
        apply List.ext_getElem?
        intro j
        by_cases hj : id = j
        · subst hj; rw [List.getElem?_set_self (List.getElem?_eq_some_iff.1 hid).1, hid]
        · rw [List.getElem?_set_ne hj]
      rw [hset] at this
      exact ⟨G, Gh.le.refl G, this, _, rfl, .str _⟩
    · cases h1
  · exact hL.elim
  · rename_i s t
    obtain ⟨ρ, L, rfl, m, hm⟩ := hL
    split at h
    case isFalse => cases h
    rename_i hs
    cases h
    obtain ⟨sv, tv, rfl, h1, h2⟩ := args2 hv
    cases h1; cases h2
    have hm' : w.cell? ⟨ρ.g 1, 0, none⟩ = some (.int .i64 m) := by
      unfold World.cell? at hm ⊢
      cases hb : w0.heap[ρ.g 1]? with
      | none => simp [hb] at hm
      | some o =>
        have hlt := (Array.getElem?_eq_some_iff.1 hb).1
        rw [hRo.below.block _ hlt, hb]
        rw [hb] at hm
        exact hm
    refine op_enter L.f143 (by kernel_rfl) rfl ((Any.strings_Index L s t m w hs hm').mono fun en w' he => ?_)
    obtain ⟨rfl, rfl⟩ := he
    exact ⟨G, Gh.le.refl G, ⟨own, hRo⟩, _, rfl, .int _ _⟩
  · rename_i s c
    obtain ⟨ρ, L, rfl⟩ := hL
    cases h
    obtain ⟨sv, cv, rfl, h1, h2⟩ := args2 hv
    cases h1; cases h2
    refine op_enter L.f217 (by kernel_rfl) rfl ((Any.stringslite_IndexByte L s c w).mono fun en w' he => ?_)
    obtain ⟨rfl, rfl⟩ := he
    exact ⟨G, Gh.le.refl G, ⟨own, hRo⟩, _, rfl, .int _ _⟩
  · rename_i n
    obtain ⟨ρ, L, rfl, htab⟩ := hL
    split at h
    case isFalse => cases h
    rename_i hn
    cases h
    obtain ⟨nv, rfl, h1⟩ := args1 hv
    cases h1
    refine op_enter L.f171 (by kernel_rfl) rfl ((Any.strconv_Itoa L n hn.1 hn.2 w (var_ext htab hRo.below)).mono fun en w' he => ?_)
    obtain ⟨rfl, k, os, rfl⟩ := he
    refine ⟨G, Gh.le.refl G, rel_ext ⟨own, hRo⟩ ⟨rfl, rfl, rfl, by simp [Sort.grow, World.drewN], fun j hj => ?_⟩, _, rfl, .str _⟩
    simp only [Sort.grow, World.drewN]
    rw [Array.getElem?_append_left hj]
  · rename_i t s
    obtain ⟨ρ, L, rfl, rfl, ⟨tp1, p1, hv1⟩, ⟨tp2, p2, hv2⟩⟩ := hL
    split at h
    case isFalse => cases h
    rename_i hs
    obtain ⟨sv, rfl, h1⟩ := args1 hv
    cases h1
    split at h
    · rename_i v hat
      cases h
      refine op_enter L.f172 (by kernel_rfl) rfl ((Any.strconv_Atoi_ok L s (by omega) v hat w).mono fun en w' he => ?_)
      obtain ⟨rfl, he⟩ := he
      have hb : Below w.heap.size w w' := by
        rcases he with rfl | ⟨t, rfl⟩
        · exact Below.refl _ _
        · exact Lib.bytesWorld_below _ _ _
      exact ⟨G, Gh.le.refl G, rel_ext ⟨own, hRo⟩ hb, _, rfl, VRs.tup (vs := #[_, _]) (VRs.cons (.int _ _) (VRs.one .nili))⟩
    · rename_i hat
      cases h
      refine op_enter L.f172 (by kernel_rfl) rfl ((Any.strconv_Atoi_syntax_var L s hs hat tp1 p1 w (var_ext hv1 hRo.below)).mono fun en w' he => ?_)
      obtain ⟨N, rfl, _, _, hb⟩ := he
      exact ⟨G, Gh.le.refl G, rel_ext ⟨own, hRo⟩ hb, _, rfl, VRs.tup (vs := #[_, _]) (VRs.cons (.int _ _) (VRs.one (.ifc _ _ _ (.any _))))⟩
    · rename_i hat
      cases h
      refine op_enter L.f172 (by kernel_rfl) rfl ((Any.strconv_Atoi_range_var L s hs hat tp2 p2 w (var_ext hv2 hRo.below)).mono fun en w' he => ?_)
      obtain ⟨N, rfl, _, _, hb⟩ := he
      exact ⟨G, Gh.le.refl G, rel_ext ⟨own, hRo⟩ hb, _, rfl, VRs.tup (vs := #[_, _]) (VRs.cons (.int _ _) (VRs.one (.ifc _ _ _ (.any _))))⟩
  · cases h

theorem primOk_of (hL : ∀ f p, assoc f A.prims = some p → PrimLay P A w0 f p) : PrimOk P A w0 := fun f p hp args st out st' G w vs h hR hv => prim_sound (hL f p hp) h hR hv

end

theorem eqsOk_of {P : Program} {A : AProg} (h : (A.eqs.all fun x => eqOkB P x.1 x.2) = true) : EqsOk P A := fun t ks ht => by
  simp only [List.all_eq_true] at h
  exact h _ (assoc_mem ht)

theorem bldOk_of {P : Program} {A : AProg} (h : (P.info? A.bld).map (·.zero) = some (some (.agg #[.pointer none, .slice none 0 0]))) : BldOk P A := fun i hi => by
  rw [hi] at h
  exact Option.some.inj h
theorem bldOk_none {P : Program} {A : AProg} (h : P.info? A.bld = none) : BldOk P A := fun i hi => by rw [hi] at h; cases h

/-- One function of the list. -/
theorem fns_cons {P : Program} {f : FuncId} {fn : Func} {l : List (FuncId × Func)} (h : P.funcs[f]? = some fn) (hn : (fn.name == "runtime.NumGoroutine") = false) (k : ∀ g gn, assoc g l = some gn → P.funcs[g]? = some gn ∧ (gn.name == "runtime.NumGoroutine") = false) :
    ∀ g gn, assoc g ((f, fn) :: l) = some gn → P.funcs[g]? = some gn ∧ (gn.name == "runtime.NumGoroutine") = false := by
  intro g gn hg
  simp only [assoc] at hg
  split at hg
  · rename_i e; subst e; cases hg; exact ⟨h, hn⟩
  · exact k g gn hg
theorem fns_nil {P : Program} : ∀ g gn, assoc g ([] : List (FuncId × Func)) = some gn → P.funcs[g]? = some gn ∧ (gn.name == "runtime.NumGoroutine") = false := fun g gn h => by cases h

end Go.St
