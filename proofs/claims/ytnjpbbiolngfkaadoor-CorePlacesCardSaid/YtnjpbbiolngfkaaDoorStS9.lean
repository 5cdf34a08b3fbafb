/- What the operations do in memory: conversions, ranges, maps, the rest. -/
import Derived.Test.YtnjpbbiolngfkaaDoorStS8
namespace Go.St
open Go.RowKit
set_option linter.unusedVariables false
set_option linter.unusedSimpArgs false

section
variable {P : Program} {A : AProg} {w0 : World} {G : Gh} {st st' : Sto} {w : World} {R : Type}

theorem VRs.tup {as : List AV} {vs : Array Value} (h : VRs G as vs.toList) : VR G (.tup as) (.tuple vs) := .tup as vs (by simpa using h.len) fun j a v ha hv => h.at_ j a v ha (by simpa using hv)

theorem textOf_row : ∀ {row : List AV} {l : List UInt8}, textOf row = some l → ∃ ns : List Int, row = ns.map (AV.int .u8) ∧ l = ns.map fun n => UInt8.ofNat n.toNat := by
  intro row
  induction row with
  | nil => intro l h; simp [textOf] at h; subst h; exact ⟨[], rfl, rfl⟩
  | cons a r ih =>
    intro l h
    unfold textOf at h
    split at h
    · rename_i e; cases e
    · rename_i n r' e
      cases e
      cases hr : textOf r with
      | none => simp [hr] at h
      | some l' =>
        simp only [hr, Option.bind_some, Option.some.injEq] at h
        obtain ⟨ns, h1, h2⟩ := ih hr
        exact ⟨n :: ns, by simp [h1], by simp [← h, h2]⟩
    · cases h

theorem foldl_push (ns : List Int) : ∀ r : ByteArray, ns.foldl (fun r n => r.push (UInt8.ofNat n.toNat)) r = ⟨r.data ++ (ns.map fun n => UInt8.ofNat n.toNat).toArray⟩ := by
  induction ns with
  | nil => intro r; simp
  | cons n ns ih => intro r; simp only [List.foldl_cons, ih]; simp [ByteArray.push]

theorem VRs_ints : ∀ {ns : List Int} {vs : List Value}, VRs G (ns.map (AV.int .u8)) vs → vs = ns.map (Value.int .u8) := by
  intro ns
  induction ns with
  | nil => intro vs h; exact List.eq_nil_of_length_eq_zero (by simpa using h.len.symm)
  | cons n ns ih =>
    intro vs h
    obtain ⟨v, ws, rfl, h1, h2⟩ := h.head
    cases h1
    rw [ih h2]
    rfl

theorem g_toText (hR : Rel A.bld A.u8 w0 G st w) {x : AV} {xv : Value} {s : ByteArray} (h : toText st x = some s) (hx : VR G x xv) {src dst e : TypeId} (hs : P.underlying src = some (.slice e)) (he : P.underlying e = some (.int .u8)) (hd : P.underlying dst = some .string) :
    Gives P A w0 G (convert src dst xv) w (.str s) st := by
  unfold toText at h
  cases hr : rowOf st 1 x with
  | none => simp [hr] at h
  | some row =>
    simp only [hr, Option.bind_some] at h
    cases ht : textOf row with
    | none => simp [ht] at h
    | some l =>
      simp only [ht, Option.bind_some, Option.some.injEq] at h
      subst h
      obtain ⟨ns, rfl, rfl⟩ := textOf_row ht
      obtain ⟨a, len, cap, vs, hh⟩ := rowOf_sound hR hr hx
      rcases hh with ⟨rfl, h1, h2, h3, h4⟩ | ⟨h1, a, cap, rfl⟩
      · obtain rfl := VRs_ints h2
        rcases h4 with ⟨rfl, rfl, rfl⟩ | ⟨b, o, rfl, h5, h6⟩
        · have : ns = [] := by simpa using h1
          subst this
          refine Gives.same hR (v' := .string ByteArray.empty) ?_ (.str _)
          rw [run_convert_bytes_string w src dst e _ _ _ hs he hd]
          rfl
        · refine Gives.same hR (v' := .string ⟨(ns.map fun n => UInt8.ofNat n.toNat).toArray⟩) ?_ (.str _)
          rw [run_convert_bytes_string w src dst e _ _ _ hs he hd, run_bytesToString w ⟨b, o, none⟩ len cap ns ?_, foldl_push]
          · simp
          · have hl : len = (ns.map (Value.int .u8)).length := by simpa using h1.symm
            rw [hl]
            exact run_loadCells_list w ⟨b, o, none⟩ _ fun j v hj => by rw [add_lit]; exact h6 j v hj
      · have : ns = [] := by simpa using h1
        subst this
        refine Gives.same hR (v' := .string ByteArray.empty) ?_ (.str _)
        rw [run_convert_bytes_string w src dst e _ _ _ hs he hd, run_bytesToString w a 0 cap [] rfl]
        rfl

theorem g_toBytes (hR : Rel A.bld A.u8 w0 G st w) {wr : Bool} {s : ByteArray} {v : AV} (h : toBytes wr s st = some (v, st')) {src dst e : TypeId} (hs : P.underlying src = some .string) (hd : P.underlying dst = some (.slice e)) (he : P.underlying e = some (.int .u8)) :
    Gives P A w0 G (convert src dst (.string s)) w v st' := by
  unfold toBytes at h
  split at h
  · have hrun := run_bytes_of_string w src dst e s hs hd he
    have hge := grownCap_ge w s.size 0 e
    have hsl : s.data.toList.length = s.size := by rw [Array.length_toList]; rfl
    have hsz : (bytesRow s (grownCap w s.size 0 e)).size = grownCap w s.size 0 e := by simp [bytesRow]; have : s.data.size = s.size := rfl; omega
    have hrow : (bytesRow s (grownCap w s.size 0 e)).toList = byteCells s ++ List.replicate (grownCap w s.size 0 e - s.size) (.int .u8 0) := by simp [bytesRow, byteCells]
    have hbl := byteCells_length s
    have hal : (bytesAV s).length = s.size := by rw [(bytesAV_VRs s G).len, hbl]
    split at h
    · simp only [Option.some.injEq, Prod.mk.injEq] at h
      obtain ⟨rfl, rfl⟩ := h
      have htk : ((bytesRow s (grownCap w s.size 0 e)).toList.drop 0).take (bytesAV s).length = byteCells s := by rw [List.drop_zero, hrow, hal, ← hbl, List.take_left]
      obtain ⟨G', k1, k2, k3, k4⟩ := rel_newcells (rel_drawn hR (w.drawn + 1)) (bytesRow s (grownCap w s.size 0 e)) e ((bytesRow s (grownCap w s.size 0 e)).size, (bytesRow s (grownCap w s.size 0 e)).size + 1) (bytesAV s) 0 0 (by omega)
        (by rw [htk]; exact bytesAV_VRs s G) (by rw [htk]; intro v hv; unfold byteCells at hv; obtain ⟨_, _, rfl⟩ := List.mem_map.1 hv; rfl) (fun k _ hk => by simp only; omega)
      exact ⟨_, _, G', hrun, k1, k2, .ms _ 0 0 _ 1 _ 0 _ _ k3 hge (.inr ⟨rfl, _, k4, by omega⟩)⟩
    · simp only [Option.some.injEq, Prod.mk.injEq] at h
      obtain ⟨rfl, rfl⟩ := h
      obtain ⟨G', k1, k2, k3, k4⟩ := rel_newrow (rel_drawn hR (w.drawn + 1)) (bytesRow s (grownCap w s.size 0 e)) e ((bytesRow s (grownCap w s.size 0 e)).size, (bytesRow s (grownCap w s.size 0 e)).size + 1)
      rw [hrow] at k3
      refine ⟨_, _, G', hrun, k1, k2, .is _ _ _ _ 0 _ _ k3 (by simp; omega) hge trivial (fun j a v ha hv => ?_) (fun j v hj hv => ?_)⟩
      · have hj : j < (bytesAV s).length := (List.getElem?_eq_some_iff.1 ha).1
        rw [Nat.zero_add, List.getElem?_append_left (by omega)] at hv
        exact (bytesAV_VRs s G').at_ j a v ha hv
      · rw [Nat.zero_add, List.getElem?_append_left (by omega)] at hv
        unfold byteCells at hv
        obtain ⟨_, _, rfl⟩ := List.mem_map.1 (List.mem_of_getElem? hv)
        rfl
  · cases h

theorem kk_u8 {te : TD} {d : TypeDesc} (h : kindB te.k d = true) (hk : te.k = .int .u8) : d = .int .u8 := by rw [hk] at h; exact kk_int h

theorem g_freeze (hR : Rel A.bld A.u8 w0 G st w) {x : AV} {xv : Value} (h : freezeA x st = some st') (hx : VR G x xv) {t e : TypeId} (hd : P.underlying t = some (.slice e)) (he : P.underlying e = some (.int .u8)) :
    Gives P A w0 G (convert t t xv) w x st' := by
  obtain ⟨own, hR⟩ := hR
  unfold freezeA at h
  split at h
  case h_2 => cases h
  rename_i id g off len es
  split at h
  · cases h
  rename_i hl0
  split at h
  case h_2 => cases h
  rename_i g' cs fz hid
  split at h
  case isFalse => cases h
  rename_i hg
  subst hg
  cases h
  obtain ⟨b, o, arr, t0, fr, h1, h2, h3, h4, h5, h6, h7, h9, h8⟩ := hR.obj id _ hid
  have hx0 := hx
  cases hx with
  | ms _ _ _ _ _ b' o' cap a hh hc ha =>
  rw [h1] at hh
  cases hh
  obtain ⟨rfl, nz, hnz, hle⟩ := ha.resolve_left (by omega)
  have hlt : b < w.heap.size := (Array.getElem?_eq_some_iff.1 h5).1
  obtain ⟨fr', hb⟩ : ∃ fr', (w.freeze ⟨b, arr.size, none⟩ 1).heap[b]? = some (.cells arr t0 fr') := by
    obtain ⟨lo, hi⟩ := fr
    exact ⟨_, by simp only [World.freeze, if_neg (Nat.one_ne_zero), Array.getElem?_modify, if_true, h5, Option.map_some]; rfl⟩
  have hfar : ∀ k, k ≠ b → (w.freeze ⟨b, arr.size, none⟩ 1).heap[k]? = w.heap[k]? := fun k hk => by simp [World.freeze, Array.getElem?_modify, Ne.symm hk]
  refine ⟨.slice (some ⟨b, o + off, none⟩) len cap, w.freeze ⟨b, arr.size, none⟩ 1, G, ?_, Gh.le.refl G, ⟨own, hR.upd (S := fun k => k = b) id _ rfl rfl rfl (by simp [World.freeze]) (fun k hk => hfar k hk) (fun k hk => ?_) (Gh.le.refl G) (fun _ _ => rfl) (fun k l hk hl => ?_) (fun k n hn => ?_)
    (.inl ⟨rfl, _, hid, Nat.le_refl _⟩) (fun k => .inl rfl) (fun j g x hx => .inl hx) ?_⟩, hx0⟩
  · simp [convert, run_underlying hd, run_underlying he, markStringish, shape, Sem.run, World.shape?, h5, freeze]
  · subst hk; exact ⟨(hR.ownlt _ _ h2).1, .inr h2⟩
  · subst hk; rw [h3] at hl; cases hl
  · by_cases hk : k = b
    · subst hk; rw [h4] at hn; exact .inr ⟨arr, t0, fr', hb, Option.some.inj hn⟩
    · exact .inl ⟨hk, hn⟩
  · exact ⟨b, o, arr, t0, fr', h1, h2, h3, h4, hb, h6, h7, h9, fun hf => absurd hf (by omega)⟩

theorem g_conv (hT : TabOk P A) (hR : Rel A.bld A.u8 w0 G st w) {wr : Bool} {src dst : TypeId} {x : AV} {xv : Value} {k : Out → Sto → Option R} {r : R} (h : convK A wr src dst x st k = some r) (hx : VR G x xv) :
    ∃ v st', k (.ret v) st' = some r ∧ Gives P A w0 G (convert src dst xv) w v st' := by
  unfold convK at h
  cases hts : assoc src A.tab with
  | none => simp [hts] at h
  | some ts =>
  cases htd : assoc dst A.tab with
  | none => simp [hts, htd] at h
  | some td =>
  simp only [hts, htd, Option.bind_some] at h
  obtain ⟨_, ds, _, hds, _, _, hks, _⟩ := (hT src ts hts).ok
  obtain ⟨_, dd, _, hdd, _, _, hkd, _⟩ := (hT dst td htd).ok
  split at h
  · rename_i ik hik
    rw [hik] at hkd
    obtain rfl := kk_int hkd
    cases x with
    | int k' n => cases hx; exact ⟨_, _, h, Gives.same hR (by simp [convert, run_underlying hds, run_underlying hdd, Conv.intToInt]) (.int _ _)⟩
    | _ => simp [asInt] at h
  · rename_i hik
    rw [hik] at hkd
    obtain rfl := kk_str hkd
    split at h
    · rename_i e he
      rw [he] at hks
      obtain rfl := kk_slice hks
      cases hte : assoc e A.tab with
      | none => simp [hte] at h
      | some te =>
        simp only [hte, Option.bind_some] at h
        obtain ⟨_, de, _, hde, _, _, hke, _⟩ := (hT e te hte).ok
        split at h
        · rename_i hu8
          obtain rfl := kk_u8 hke hu8
          cases htx : toText st x with
          | none => simp [htx] at h
          | some s =>
            simp only [htx, Option.bind_some] at h
            exact ⟨_, _, h, g_toText hR htx hx hds hde hdd⟩
        · cases h
    · rename_i he
      cases x with
      | str s => cases hx; exact ⟨_, _, h, Gives.same hR (by simp [convert, run_underlying hds, run_underlying hdd]) (.str _)⟩
      | _ => simp [asS] at h
    · cases x with
      | int k' n => cases hx; exact ⟨_, _, h, Gives.same hR (by simp [convert, run_underlying hds, run_underlying hdd, Conv.intToString]) (.str _)⟩
      | _ => simp [asInt] at h
  · rename_i e hik
    rw [hik] at hkd
    obtain rfl := kk_slice hkd
    split at h
    · rename_i he
      rw [he] at hks
      obtain rfl := kk_str hks
      cases hte : assoc e A.tab with
      | none => simp [hte] at h
      | some te =>
        simp only [hte, Option.bind_some] at h
        obtain ⟨_, de, _, hde, _, _, hke, _⟩ := (hT e te hte).ok
        split at h
        · rename_i hu8
          obtain rfl := kk_u8 hke hu8
          cases x with
          | str s =>
            simp only [asS, Option.bind_some, two] at h
            cases htb : toBytes wr s st with
            | none => simp [htb] at h
            | some p =>
              simp only [htb, Option.bind_some] at h
              cases hx
              exact ⟨_, _, h, g_toBytes hR htb hds hdd hde⟩
          | _ => simp [asS] at h
        · cases h
    · rename_i e' he
      split at h
      case isFalse => cases h
      rename_i hsd
      subst hsd
      cases hte : assoc e A.tab with
      | none => simp [hte] at h
      | some te =>
        simp only [hte, Option.bind_some] at h
        obtain ⟨_, de, _, hde, _, _, hke, _⟩ := (hT e te hte).ok
        split at h
        · rename_i hu8
          obtain rfl := kk_u8 hke hu8
          cases hf : freezeA x st with
          | none => simp [hf] at h
          | some s =>
            simp only [hf, Option.bind_some] at h
            exact ⟨_, _, h, g_freeze hR hf hx hdd hde⟩
        · cases h
    · cases h
  · cases h

/-! ### Ranges over texts -/
theorem rel_newobj (hR : Rel A.bld A.u8 w0 G st w) (ob : Ob) (o : Obj) (hv : ob.ver = 0)
    (hob : ∀ G' own' w', G.le G' → G'.ρ st.length 0 = some (w.heap.size, 0) → own' w.heap.size = some st.length → w'.heap[w.heap.size]? = some o → G'.H w.heap.size = G.H w.heap.size → ObR A.bld A.u8 G' own' w' st.length ob) :
    ∃ G', G.le G' ∧ Rel A.bld A.u8 w0 G' (st ++ [ob]) (w.alloc o) ∧ G'.ρ st.length 0 = some (w.heap.size, 0) := by
  obtain ⟨own, hR⟩ := hR
  obtain ⟨fH, fZ, fo⟩ := hR.fresh
  have hle : G.le { ρ := fun i g => if i = st.length ∧ g = 0 then some (w.heap.size, 0) else G.ρ i g, H := G.H, Z := G.Z } := by
    refine ⟨fun i g x hx => ?_, fun b l hb => ⟨[], by simpa using hb⟩, fun b n hb => hb⟩
    obtain ⟨ob, ho, _⟩ := hR.dom i g x hx
    have := (List.getElem?_eq_some_iff.1 ho).1
    simp only
    rw [if_neg (by omega)]
    exact hx
  refine ⟨_, hle, ⟨fun k => if k = w.heap.size then some st.length else own k, hR.new ob o _ _ rfl hle (fun _ _ => rfl) (fun l hl => by simp only at hl; rw [fH] at hl; cases hl) (fun k n hn => ?_) (fun j g x hx => ?_) ?_⟩, by simp⟩
  · refine .inl ⟨fun e => ?_, hn⟩
    subst e
    simp only at hn
    rw [fZ] at hn
    cases hn
  · simp only at hx
    split at hx
    · rename_i hj; exact .inr ⟨hj.1, by rw [hv]; omega⟩
    · exact .inl hx
  · exact hob _ _ _ hle (by simp) (by simp) (alloc_at w o) rfl

/-- An object that is no row of cells is told anew. -/
theorem rel_setobj {own : Nat → Option Nat} (hR : RelO A.bld A.u8 w0 G own st w) {i b : Nat} {ob0 ob : Ob} (hi : st[i]? = some ob0) (hv : ob0.ver ≤ ob.ver) (hown : own b = some i) {o0 o : Obj} (hb : w.heap[b]? = some o0) (hnc : ∀ arr t fr, o0 ≠ .cells arr t fr)
    (hob : ∀ w', w'.heap[b]? = some o → ObR A.bld A.u8 G own w' i ob) : RelO A.bld A.u8 w0 G own (st.set i ob) { w with heap := w.heap.setIfInBounds b o } := by
  have hlt : b < w.heap.size := (hR.ownlt b i hown).2
  have hb' : ({ w with heap := w.heap.setIfInBounds b o } : World).heap[b]? = some o := by simp [hlt]
  refine hR.upd (S := fun k => k = b) i ob rfl rfl rfl (by simp) (fun k hk => ?_) (fun k hk => ?_) (Gh.le.refl G) (fun _ _ => rfl) (fun k l hk hl => ?_) (fun k n hn => .inl ⟨fun e => ?_, hn⟩) (.inl ⟨rfl, ob0, hi, hv⟩) (fun k => .inl rfl) (fun j g x hx => .inl hx) (hob _ hb')
  · simp [Array.getElem?_setIfInBounds_ne (Ne.symm hk)]
  · subst hk; exact ⟨(hR.ownlt _ _ hown).1, .inr hown⟩
  · subst hk
    obtain ⟨arr, t, fr, m, h1, _⟩ := hR.prot k l hl
    rw [hb] at h1
    cases h1
    exact absurd rfl (hnc _ _ _)
  · subst e
    obtain ⟨arr, t, fr, h1, _⟩ := hR.size k n hn
    rw [hb] at h1
    cases h1
    exact hnc _ _ _ rfl

theorem g_range (hR : Rel A.bld A.u8 w0 G st w) {t : TypeId} (hd : P.underlying t = some .string) (s : ByteArray) : Gives P A w0 G (Instr.range t (.string s)) w (.it st.length) (st ++ [.iter s 0]) := by
  obtain ⟨G', k1, k2, k3⟩ := rel_newobj hR (.iter s 0) (.stringIter s 0) rfl (fun G' own' w' h1 h2 h3 h4 _ => ⟨w.heap.size, h2, h3, h4⟩)
  exact ⟨.pointer (some ⟨w.heap.size, 0, none⟩), _, G', by simp [Instr.range, run_underlying hd], k1, k2, .it _ _ k3⟩

theorem g_next (hR : Rel A.bld A.u8 w0 G st w) {x : AV} {xv : Value} {b : Bool} {v : AV} (h : nextA x b st = some (v, st')) (hx : VR G x xv) (t : TypeId) : Gives P A w0 G (Instr.next xv b t) w v st' := by
  obtain ⟨own, hRo⟩ := hR
  unfold nextA at h
  split at h
  · rename_i id
    split at h
    · rename_i s pos hid
      split at h
      · rename_i hb
        obtain rfl : b = true := hb
        obtain ⟨bk, h1, h2, h3⟩ := hRo.obj id _ hid
        cases hx with
        | it _ b' h4 =>
          rw [h1] at h4
          cases h4
          split at h
          · rename_i hp
            simp only [Option.some.injEq, Prod.mk.injEq] at h
            obtain ⟨rfl, rfl⟩ := h
            refine ⟨.tuple #[.bool true, .int .i64 pos, .int .i32 (Utf8.decode s pos).1], { w with heap := w.heap.setIfInBounds bk (.stringIter s (pos + (Utf8.decode s pos).2)) }, G, ?_, Gh.le.refl G, ⟨own, rel_setobj hRo hid (ob := .iter s (pos + (Utf8.decode s pos).2)) (by simp [Ob.ver]) h2 h3 (by simp) fun w' hw => ⟨bk, h1, h2, hw⟩⟩, ?_⟩
            · simp [Instr.next, getObj, setObj, Sem.run, h3, hp, goInt]
            · exact VRs.tup (vs := #[_, _, _]) (VRs.cons (.bool _) (VRs.cons (.int _ _) (VRs.one (.int _ _))))
          · rename_i hp
            simp only [Option.some.injEq, Prod.mk.injEq] at h
            obtain ⟨rfl, rfl⟩ := h
            exact Gives.same ⟨own, hRo⟩ (v' := .tuple #[.bool false]) (by simp [Instr.next, getObj, Sem.run, h3, hp]) (VRs.tup (vs := #[_]) (VRs.one (.bool _)))
      · cases h
    · cases h
  · cases h

end

end Go.St
