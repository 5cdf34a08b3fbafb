/- A strings.Builder, written and read: what is changed, to the block. -/
import Derived.Test.YtnjpbbiolngfkaaDoorStS16
import Derived.Shelf.Strings.Builder1
import Derived.Lib.FrozenHead2
namespace Go.St
open Go.RowKit Go.Shelf Go.Proofs
set_option linter.unusedVariables false
set_option linter.unusedSimpArgs false
variable {P : Program} {ρ : Ren}

theorem Buf.keep {e : TypeId} {w w' : World} {v : Value} {s : ByteArray} (h : Buf e w v s) (hk : ∀ k, v.ownBlock = some k → w'.heap[k]? = w.heap[k]?) : Buf e w' v s := by
  rcases h with h | ⟨g, cap, cur, fz, rfl, hg, r⟩
  · exact .inl h
  · exact .inr ⟨g, cap, cur, fz, rfl, (hk g rfl).trans hg, r⟩
theorem Buf.slice {e : TypeId} {w : World} {v : Value} {s : ByteArray} (h : Buf e w v s) : ∃ a cap, v = .slice a s.size cap := by
  rcases h with ⟨rfl, rfl⟩ | ⟨g, cap, cur, fz, rfl, _⟩
  · exact ⟨none, 0, rfl⟩
  · exact ⟨_, _, rfl⟩
theorem Buf.lt {e : TypeId} {w : World} {v : Value} {s : ByteArray} (h : Buf e w v s) {k : Nat} (hk : v.ownBlock = some k) : k < w.heap.size := by
  rcases h with ⟨rfl, rfl⟩ | ⟨g, cap, cur, fz, rfl, hg, _⟩
  · cases hk
  · cases hk; exact (Array.getElem?_eq_some_iff.1 hg).1

/-- A builder's block, its buffer. -/
structure BAt (T e : TypeId) (w : World) (b : Nat) (p v : Value) (s : ByteArray) : Prop where
  blk : w.heap[b]? = some (.cells #[p, v] T (0, 0))
  ptr : p = .pointer none ∨ p = .pointer (some ⟨b, 0, none⟩)
  buf : Buf e w v s
  ne : v.ownBlock ≠ some b

/-- What a call that works on a builder leaves. -/
def BLeft (T e : TypeId) (w w' : World) (b : Nat) (v : Value) (s' : ByteArray) : Prop :=
  ∃ p' v', BAt T e w' b p' v' s' ∧ Turned w w' (fun k => k = b ∨ v.ownBlock = some k) ∧ ∀ k, v'.ownBlock = some k → v.ownBlock = some k ∨ w.heap.size ≤ k

theorem b_copyCheck (L : Lays.n240 P ρ) (X : Builder.X72 P ρ) {e : TypeId} {w : World} {b : Nat} {p v : Value} {s : ByteArray} (h : BAt (ρ.t 72) e w b p v s) :
    Calls P (ρ.f 240) #[.pointer (some ⟨b, 0, none⟩)] w fun en w' => en = .returned (.tuple #[]) ∧ BAt (ρ.t 72) e w' b (.pointer (some ⟨b, 0, none⟩)) v s ∧ Turned w w' (fun k => k = b) := by
  have hlt : b < w.heap.size := (Array.getElem?_eq_some_iff.1 h.blk).1
  have c0 : w.cell? ⟨b, 0, none⟩ = some p := by rw [Lib.cell_of_heap h.blk]; rfl
  rcases h.ptr with rfl | rfl
  · refine (Any.Builder_copyCheck_fresh L X b w c0 (by simp [World.shape?, h.blk]) (Lib.frozen_of_heap h.blk 0)).mono ?_
    rintro en w' ⟨rfl, rfl⟩
    have hb : (w.setCell ⟨b, 0, none⟩ (.pointer (some ⟨b, 0, none⟩))).heap[b]? = some (.cells #[.pointer (some ⟨b, 0, none⟩), v] (ρ.t 72) (0, 0)) := by
      have := setCells_heap b (ρ.t 72) (0, 0) [.pointer (some ⟨b, 0, none⟩)] 0 w _ h.blk (by simp)
      simpa [World.setCells, splice] using this
    exact ⟨rfl, ⟨hb, .inr rfl, h.buf.keep fun k hk => Below.heap_setCell w _ _ k (fun ek => h.ne (by rw [hk]; exact congrArg some ek)), h.ne⟩, (Turned.refl w (fun k => k = b)).setCell b 0 (.inl rfl) _⟩
  · refine (Any.Builder_copyCheck_used L X b w c0).mono ?_
    rintro en w' ⟨rfl, rfl⟩
    exact ⟨rfl, h, Turned.refl _ _⟩

theorem wpList_runs {ops : Array Oper} {rest : List Oper} {o : Oper} {a : Act} {Q : Exit → Act → World → Prop} (hgd : o.guard = none) {v' : Value} {w w' : World} (hr : (execOp a.eval o).run P w = .ok (.value v') w') (h : wpList P ops Q rest (a.put o.dst v') w') : wpList P ops Q (o :: rest) a w := by
  refine wpList_plain hgd fun K hK => ?_
  unfold Oper.wp
  rw [hr]
  exact hK _ _ h

/-- The buffer told anew in the builder's block. -/
theorem BAt.put {T e : TypeId} {w : World} {b : Nat} {p v v' : Value} {s' : ByteArray} (hb : w.heap[b]? = some (.cells #[p, v] T (0, 0))) (hp : p = .pointer none ∨ p = .pointer (some ⟨b, 0, none⟩)) (hbuf : Buf e w v' s') (hne : v'.ownBlock ≠ some b) : BAt T e (w.setCell ⟨b, 1, none⟩ v') b p v' s' := by
  refine ⟨?_, hp, hbuf.keep fun k hk => Below.heap_setCell w _ _ k (fun ek => hne (by rw [hk]; exact congrArg some ek)), hne⟩
  have := setCells_heap b T (0, 0) [v'] 1 w _ hb (by simp)
  simpa [World.setCells, splice] using this

set_option maxHeartbeats 2000000 in
set_option maxRecDepth 100000 in
theorem b_writeString (L : Lays.n166 P ρ) (X : Builder.Extra P ρ) {w : World} {b : Nat} {p v : Value} {s : ByteArray} (h : BAt (ρ.t 72) (ρ.t 5) w b p v s) (r : ByteArray) (hl : s.size + r.size ≤ 70368744177664) :
    Calls P (ρ.f 166) #[.pointer (some ⟨b, 0, none⟩), .string r] w fun en w' => en = .returned (.tuple #[.int .i64 r.size, .nilIface]) ∧ BLeft (ρ.t 72) (ρ.t 5) w w' b v (s ++ r) := by
  obtain ⟨i0, hi, hz0, hz1, hz2⟩ := info_parts X.infoByte
  have mixed := L.mixed
  have t72 := L.t72; have a72 := L.a72; have z72 := L.z72; have v72 := L.v72; have u72 := run_underlying L.t72
  have t70 := L.t70; have a70 := L.a70; have z70 := L.z70; have v70 := L.v70; have u70 := run_underlying L.t70
  have t37 := L.t37; have a37 := L.a37; have z37 := L.z37; have v37 := L.v37; have u37 := run_underlying L.t37
  have t3 := L.t3; have a3 := L.a3; have z3 := L.z3; have v3 := L.v3; have u3 := run_underlying L.t3
  have t9 := L.t9; have a9 := L.a9; have z9 := L.z9; have v9 := L.v9; have u9 := run_underlying L.t9
  have t4 := L.t4; have a4 := L.a4; have z4 := L.z4; have v4 := L.v4; have u4 := run_underlying L.t4
  have t164 := L.t164; have a164 := L.a164; have z164 := L.z164; have v164 := L.v164; have u164 := run_underlying L.t164
  have t5 := X.t5; have a5 := X.a5; have z5 := X.z5; have v5 := X.v5; have u5 := run_underlying X.t5
  have e240 : ∀ args w, (callFunc (ρ.f 240) args).run P w = .ok (.enter (ρ.f 240) args) w := enters_of L.f240 (by kernel_rfl) rfl
  go_enter L.f166, Body.n166_ntmps ρ
  go_wp2_with (go_at_fn (ρ.f 240); refine (b_copyCheck { L with } X.toX72 h).mono ?_)
  rintro en w1 ⟨rfl, h1, ht1⟩
  have hlt : b < w1.heap.size := (Array.getElem?_eq_some_iff.1 h1.blk).1
  obtain ⟨v', w2, hrun, hbuf2, ht2, hown2⟩ := append_buf (P := P) (ty := ρ.t 37) L.t37 hi hz0 hz1 hz2 h1.buf (Src.ofString (w := w1) L.t9 r) hl
  have hb2 : w2.heap[b]? = some (.cells #[.pointer (some ⟨b, 0, none⟩), v] (ρ.t 72) (0, 0)) := (ht2.other b hlt (fun ek => h1.ne ek)).trans h1.blk
  have hne2 : v'.ownBlock ≠ some b := fun ek => by
    rcases hown2 b ek with h' | h'
    · exact h1.ne h'
    · omega
  have c0 : w1.cell? ⟨b, 0, none⟩ = some (.pointer (some ⟨b, 0, none⟩)) := by rw [Lib.cell_of_heap h1.blk]; rfl
  have c1 : w1.cell? ⟨b, 1, none⟩ = some v := by rw [Lib.cell_of_heap h1.blk]; rfl
  have d0 : w2.cell? ⟨b, 0, none⟩ = some (.pointer (some ⟨b, 0, none⟩)) := by rw [Lib.cell_of_heap hb2]; rfl
  have d1 : w2.cell? ⟨b, 1, none⟩ = some v := by rw [Lib.cell_of_heap hb2]; rfl
  have f1 : w2.frozen? ⟨b, 1, none⟩ = false := Lib.frozen_of_heap hb2 1
  have hfin := BAt.put hb2 (.inr rfl) hbuf2 hne2
  have htf : Turned w (w2.setCell ⟨b, 1, none⟩ v') (fun k => k = b ∨ v.ownBlock = some k) :=
    ((ht1.mono fun k _ hk => .inl hk).trans (ht2.mono fun k _ hk => .inr hk)).setCell b 1 (.inl (.inl rfl)) _
  have hleft : BLeft (ρ.t 72) (ρ.t 5) w (w2.setCell ⟨b, 1, none⟩ v') b v (s ++ r) := ⟨_, _, hfin, htf, fun k hk => (hown2 k hk).imp id fun e => by rw [e]; exact ht1.size⟩
  obtain ⟨ao, cap, hv'⟩ := hbuf2.slice
  rw [ByteArray.size_append] at hv'
  go_wp2_with (at_builtin; refine wpList_runs rfl (v' := v') (w' := w2) ?c1 ?_)
  case c1 =>
    simp only [execOp, resolve, invoke, builtin, Sem.run_bind, Sem.run_pure, Result.andThen_ok, List.map_toArray, List.map_cons, List.map_nil]
    exact (congrArg (fun x => Result.andThen x (fun a w' => Result.ok (Next.value a) w')) hrun).trans rfl
  subst hv'
  go_wp2
  go_ret2
  exact ⟨rfl, hleft⟩

set_option maxHeartbeats 2000000 in
set_option maxRecDepth 100000 in
theorem b_writeByte (L : Lays.n167 P ρ) (X : Builder.Extra P ρ) {w : World} {b : Nat} {p v : Value} {s : ByteArray} (h : BAt (ρ.t 72) (ρ.t 5) w b p v s) (c : Int) (hc : 0 ≤ c ∧ c < 256) (hl : s.size + 1 ≤ 70368744177664) :
    Calls P (ρ.f 167) #[.pointer (some ⟨b, 0, none⟩), .int .u8 c] w fun en w' => en = .returned .nilIface ∧ BLeft (ρ.t 72) (ρ.t 5) w w' b v (s ++ byteOf c) := by
  obtain ⟨i0, hi, hz0, hz1, hz2⟩ := info_parts X.infoByte
  have mixed := L.mixed
  have t72 := L.t72; have a72 := L.a72; have z72 := L.z72; have v72 := L.v72; have u72 := run_underlying L.t72
  have t70 := L.t70; have a70 := L.a70; have z70 := L.z70; have v70 := L.v70; have u70 := run_underlying L.t70
  have t5 := L.t5; have a5 := L.a5; have z5 := L.z5; have v5 := L.v5; have u5 := run_underlying L.t5
  have t37 := L.t37; have a37 := L.a37; have z37 := L.z37; have v37 := L.v37; have u37 := run_underlying L.t37
  have t9 := L.t9; have a9 := L.a9; have z9 := L.z9; have v9 := L.v9; have u9 := run_underlying L.t9
  have t4 := L.t4; have a4 := L.a4; have z4 := L.z4; have v4 := L.v4; have u4 := run_underlying L.t4
  have t164 := L.t164; have a164 := L.a164; have z164 := L.z164; have v164 := L.v164; have u164 := run_underlying L.t164
  have e240 : ∀ args w, (callFunc (ρ.f 240) args).run P w = .ok (.enter (ρ.f 240) args) w := enters_of L.f240 (by kernel_rfl) rfl
  go_enter L.f167, Body.n167_ntmps ρ
  go_wp2_with (go_at_fn (ρ.f 240); refine (b_copyCheck { L with } X.toX72 h).mono ?_)
  rintro en w1 ⟨rfl, h1, ht1⟩
  have hlt : b < w1.heap.size := (Array.getElem?_eq_some_iff.1 h1.blk).1
  have hbyte : byteCells (byteOf c) = [.int .u8 c] := by
    have : (UInt8.ofNat c.toNat).toNat = c.toNat := by simp [UInt8.toNat_ofNat']; omega
    simp only [byteCells, byteOf, List.map_cons, List.map_nil, this]
    congr 2
    omega
  have hbufA : Buf (ρ.t 5) (w1.alloc (.cells #[.int .u8 c] (ρ.t 5))) v s := h1.buf.keep fun k hk => Below.heap_alloc w1 _ k (h1.buf.lt hk)
  obtain ⟨v', w2, hrun, hbuf2, ht2, hown2⟩ := append_buf (P := P) (ty := ρ.t 37) L.t37 hi hz0 hz1 hz2 hbufA (yv := .slice (some ⟨w1.heap.size, 0, none⟩) 1 1) (r := byteOf c)
    (Src.ofSlice _ L.t37 ⟨w1.heap.size, 0, none⟩ 1 1 _ (by rw [hbyte]; rfl) (fun j u hj => by rw [hbyte] at hj; rw [add_lit, cell_at (alloc_at w1 _)]; simpa using hj) (fun u hu => by rw [hbyte] at hu; simp at hu; subst hu; rfl)) hl
  have hsa : (w1.alloc (.cells #[.int .u8 c] (ρ.t 5))).heap.size = w1.heap.size + 1 := by show (w1.heap.push _).size = _; simp
  have hb2 : w2.heap[b]? = some (.cells #[.pointer (some ⟨b, 0, none⟩), v] (ρ.t 72) (0, 0)) := (ht2.other b (by rw [hsa]; omega) (fun ek => h1.ne ek)).trans ((Below.heap_alloc w1 _ b hlt).trans h1.blk)
  have hne2 : v'.ownBlock ≠ some b := fun ek => by
    rcases hown2 b ek with h' | h'
    · exact h1.ne h'
    · rw [hsa] at h'; omega
  have c0 : w1.cell? ⟨b, 0, none⟩ = some (.pointer (some ⟨b, 0, none⟩)) := by rw [Lib.cell_of_heap h1.blk]; rfl
  have c1 : w1.cell? ⟨b, 1, none⟩ = some v := by rw [Lib.cell_of_heap h1.blk]; rfl
  have d0 : w2.cell? ⟨b, 0, none⟩ = some (.pointer (some ⟨b, 0, none⟩)) := by rw [Lib.cell_of_heap hb2]; rfl
  have d1 : w2.cell? ⟨b, 1, none⟩ = some v := by rw [Lib.cell_of_heap hb2]; rfl
  have f1 : w2.frozen? ⟨b, 1, none⟩ = false := Lib.frozen_of_heap hb2 1
  have hfin := BAt.put hb2 (.inr rfl) hbuf2 hne2
  have htf : Turned w (w2.setCell ⟨b, 1, none⟩ v') (fun k => k = b ∨ v.ownBlock = some k) :=
    (((ht1.mono fun k _ hk => .inl hk).alloc (.cells #[.int .u8 c] (ρ.t 5))).trans (ht2.mono fun k _ hk => .inr hk)).setCell b 1 (.inl (.inl rfl)) _
  have hleft : BLeft (ρ.t 72) (ρ.t 5) w (w2.setCell ⟨b, 1, none⟩ v') b v (s ++ byteOf c) := ⟨_, _, hfin, htf, fun k hk => (hown2 k hk).imp id fun e => by rw [e, hsa]; have := ht1.size; omega⟩
  obtain ⟨ao, cap, hv'⟩ := hbuf2.slice
  have hs1 : (s ++ byteOf c).size = s.size + 1 := by rw [ByteArray.size_append]; rfl
  rw [hs1] at hv'
  go_wp2_with (at_builtin; refine wpList_runs rfl (v' := v') (w' := w2) ?c1 ?_)
  case c1 =>
    simp only [execOp, resolve, invoke, builtin, Sem.run_bind, Sem.run_pure, Result.andThen_ok, List.map_toArray, List.map_cons, List.map_nil]
    exact (congrArg (fun x => Result.andThen x (fun a w' => Result.ok (Next.value a) w')) hrun).trans rfl
  subst hv'
  go_wp2
  go_ret
  exact ⟨rfl, hleft⟩

theorem freeze_at {w : World} {g n fz : Nat} {cur : Array Value} {e : TypeId} (hg : w.heap[g]? = some (.cells cur e (0, fz))) (hn : n ≠ 0) (hfz : fz ≤ n) : (w.freeze ⟨g, 0, none⟩ n).heap[g]? = some (.cells cur e (0, n)) := by
  have hlt : g < w.heap.size := (Array.getElem?_eq_some_iff.1 hg).1
  unfold World.freeze
  rw [if_neg hn]
  simp only [Array.getElem?_modify, if_true, hg, Option.map_some]
  by_cases h0 : fz = 0
  · subst h0; simp
  · have : (0 == fz) = false := by simpa using fun h => h0 h.symm
    simp [this]
    omega
theorem freeze_far {w : World} {g n k : Nat} (hk : k ≠ g) : (w.freeze ⟨g, 0, none⟩ n).heap[k]? = w.heap[k]? := by
  unfold World.freeze
  split
  · rfl
  · simp [Array.getElem?_modify, Ne.symm hk]
theorem Turned.freeze {a w : World} {S : Nat → Prop} (h : Turned a w S) {g n : Nat} (hg : S g) : Turned a (w.freeze ⟨g, 0, none⟩ n) S := by
  refine ⟨?_, ?_, ?_, ?_, fun k hk hs => ?_, fun k arr t fr hk => ?_⟩
  · unfold World.freeze; split <;> exact h.os
  · unfold World.freeze; split <;> exact h.tape
  · unfold World.freeze; split <;> exact h.output
  · unfold World.freeze; split <;> simpa using h.size
  · rw [freeze_far (fun e => by subst e; exact hs hg)]
    exact h.other k hk hs
  · obtain ⟨a1, t1, f1, h1, h2⟩ := h.sized k arr t fr hk
    by_cases hkg : k = g
    · subst hkg
      unfold World.freeze
      split
      · exact ⟨a1, t1, f1, h1, h2⟩
      · obtain ⟨lo, hi⟩ := f1
        exact ⟨a1, t1, _, by simp only [Array.getElem?_modify, if_true, h1, Option.map_some]; rfl, h2⟩
    · exact ⟨a1, t1, f1, (freeze_far hkg).trans h1, h2⟩

set_option maxHeartbeats 1000000 in
set_option maxRecDepth 100000 in
theorem b_string (L : Lays.n169 P ρ) (X : Builder.Extra P ρ) {w : World} {b : Nat} {p v : Value} {s : ByteArray} (h : BAt (ρ.t 72) (ρ.t 5) w b p v s) :
    Calls P (ρ.f 169) #[.pointer (some ⟨b, 0, none⟩)] w fun en w' => en = .returned (.string s) ∧ BLeft (ρ.t 72) (ρ.t 5) w w' b v s := by
  obtain ⟨hbk, hp, hbuf, hne⟩ := h
  rcases hbuf with ⟨rfl, rfl⟩ | ⟨g, cap, cur, fz, rfl, hg, hs0, hfz, hsc, hcm, hcs, htk⟩
  · have hUS := Any.unsafeString_none L X
    have c1 : w.drew.cell? ⟨b, 1, none⟩ = some (.slice none 0 0) := by
      have : w.drew.heap[b]? = some (.cells #[p, .slice none 0 0] (ρ.t 72) (0, 0)) := hbk
      rw [Lib.cell_of_heap this]; rfl
    have hSD : (Builtin.unsafeSliceData_ #[(ρ.t 37)] (ρ.t 127) #[.slice none 0 0]).run P w.drew = .ok (.pointer none) w.drew := rfl
    have hleft : BLeft (ρ.t 72) (ρ.t 5) w w.drew b (.slice none 0 0) ByteArray.empty := ⟨p, _, ⟨hbk, hp, .inl ⟨rfl, rfl⟩, hne⟩, (Turned.refl w _).drew, fun k hk => .inl hk⟩
    have mixed := L.mixed
    have t72 := L.t72; have a72 := L.a72; have z72 := L.z72; have v72 := L.v72; have u72 := run_underlying L.t72
    have t70 := L.t70; have a70 := L.a70; have z70 := L.z70; have v70 := L.v70; have u70 := run_underlying L.t70
    have t37 := L.t37; have a37 := L.a37; have z37 := L.z37; have v37 := L.v37; have u37 := run_underlying L.t37
    have t127 := L.t127; have a127 := L.a127; have z127 := L.z127; have v127 := L.v127; have u127 := run_underlying L.t127
    have t3 := L.t3; have a3 := L.a3; have z3 := L.z3; have v3 := L.v3; have u3 := run_underlying L.t3
    have t9 := L.t9; have a9 := L.a9; have z9 := L.z9; have v9 := L.v9; have u9 := run_underlying L.t9
    have t5 := X.t5; have a5 := X.a5; have z5 := X.z5; have v5 := X.v5; have u5 := run_underlying X.t5
    go_enter L.f169, Body.n169_ntmps ρ
    go_wp2
    go_region_o
    all_goals (go_wp2; go_ret; exact ⟨rfl, hleft⟩)
  · have hl : s.data.toList.length = s.size := by rw [Array.length_toList]; rfl
    have hl0 : s.data.toList ≠ [] := fun e => hs0 (by rw [← hl, e]; rfl)
    have c1 : w.drew.cell? ⟨b, 1, none⟩ = some (.slice (some ⟨g, 0, none⟩) s.size cap) := by
      have : w.drew.heap[b]? = some (.cells #[p, .slice (some ⟨g, 0, none⟩) s.size cap] (ρ.t 72) (0, 0)) := hbk
      rw [Lib.cell_of_heap this]; rfl
    have hg' : w.drew.heap[g]? = some (.cells cur (ρ.t 5) (0, fz)) := hg
    have hSD : (Builtin.unsafeSliceData_ #[(ρ.t 37)] (ρ.t 127) #[.slice (some ⟨g, 0, none⟩) s.size cap]).run P w.drew = .ok (.pointer (some ⟨g, 0, none⟩)) w.drew :=
      Lib.run_unsafeSliceData_row _ _ _ _ _ _ (by omega)
    have hUS : (Builtin.unsafeString_ #[(ρ.t 127), (ρ.t 3)] (ρ.t 9) #[.pointer (some ⟨g, 0, none⟩), .int .i64 s.size]).run P w.drew = .ok (.string s) (w.drew.freeze ⟨g, 0, none⟩ s.size) := by
      have := Lib.run_unsafeString_row (P := P) w.drew (ρ.t 127) (ρ.t 3) (ρ.t 9) (ρ.t 5) L.t127 X.cellsByte g cur.size (by simp [World.shape?, hg']) s.data.toList hl0 (by omega) (by unfold maxLen at hcm; omega) (by
        intro j x hx
        rw [add_lit, cell_at hg', Nat.zero_add]
        have hj : j < s.size := by rw [← hl]; exact (List.getElem?_eq_some_iff.1 hx).1
        have h1 : (cur.toList.take s.size)[j]? = some (.int .u8 x.toNat) := by rw [htk]; rw [byteCells, List.getElem?_map, hx]; rfl
        rw [List.getElem?_take, if_pos hj] at h1
        simpa using h1)
      rw [hl] at this
      exact this
    have hleft : BLeft (ρ.t 72) (ρ.t 5) w (w.drew.freeze ⟨g, 0, none⟩ s.size) b (.slice (some ⟨g, 0, none⟩) s.size cap) s := by
      have hbg : b ≠ g := fun e => hne (by subst e; rfl)
      exact ⟨p, _, ⟨(freeze_far hbg).trans hbk, hp, .inr ⟨g, cap, cur, s.size, rfl, freeze_at hg' hs0 hfz, hs0, Nat.le_refl _, hsc, hcm, hcs, htk⟩, hne⟩, ((Turned.refl w _).drew).freeze (.inr rfl), fun k hk => .inl hk⟩
    have mixed := L.mixed
    have t72 := L.t72; have a72 := L.a72; have z72 := L.z72; have v72 := L.v72; have u72 := run_underlying L.t72
    have t70 := L.t70; have a70 := L.a70; have z70 := L.z70; have v70 := L.v70; have u70 := run_underlying L.t70
    have t37 := L.t37; have a37 := L.a37; have z37 := L.z37; have v37 := L.v37; have u37 := run_underlying L.t37
    have t127 := L.t127; have a127 := L.a127; have z127 := L.z127; have v127 := L.v127; have u127 := run_underlying L.t127
    have t3 := L.t3; have a3 := L.a3; have z3 := L.z3; have v3 := L.v3; have u3 := run_underlying L.t3
    have t9 := L.t9; have a9 := L.a9; have z9 := L.z9; have v9 := L.v9; have u9 := run_underlying L.t9
    have t5 := X.t5; have a5 := X.a5; have z5 := X.z5; have v5 := X.v5; have u5 := run_underlying X.t5
    go_enter L.f169, Body.n169_ntmps ρ
    go_wp2
    go_region_o
    all_goals (go_wp2; go_ret; exact ⟨rfl, hleft⟩)

end Go.St
