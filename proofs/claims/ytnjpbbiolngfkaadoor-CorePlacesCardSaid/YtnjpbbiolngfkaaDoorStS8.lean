/- What the operations do in memory: appends. -/
import Derived.Test.YtnjpbbiolngfkaaDoorStS7
namespace Go.St
open Go.RowKit
set_option linter.unusedVariables false
set_option linter.unusedSimpArgs false

section
variable {P : Program} {A : AProg} {w0 : World} {G : Gh} {st st' : Sto} {w : World} {R : Type}

theorem bytesAV_VRs (s : ByteArray) (G : Gh) : VRs G (bytesAV s) (byteCells s) := by
  unfold bytesAV byteCells
  generalize s.data.toList = l
  induction l with
  | nil => exact VRs.nil G
  | cons b r ih => exact VRs.cons (.int _ _) ih

/-- A row that is told: where it lies. -/
theorem rowOf_sound (hR : Rel A.bld A.u8 w0 G st w) {es : Nat} {x : AV} {row : List AV} {xv : Value} (h : rowOf st es x = some row) (hx : VR G x xv) :
    ∃ a len cap vs, xv = .slice a len cap ∧ row.length = len * es ∧ VRs G row vs ∧ (∀ v ∈ vs, v.oneCell' = true) ∧ ((a = none ∧ len = 0 ∧ cap = 0) ∨ ∃ b o, a = some ⟨b, o, none⟩ ∧ len ≤ cap ∧ ∀ j v, vs[j]? = some v → w.cell? ⟨b, o + j, none⟩ = some v) ∨
      (row = [] ∧ ∃ a cap, xv = .slice (some a) 0 cap) := by
  obtain ⟨own, hR⟩ := hR
  unfold rowOf at h
  split at h
  · cases h; cases hx
    exact ⟨none, 0, 0, [], .inl ⟨rfl, by simp, VRs.nil G, by simp, .inl ⟨rfl, rfl, rfl⟩⟩⟩
  · rename_i row0 len tok
    have one : ∀ {row : List AV}, row.length = len * es → row.length ≤ row0.length → row = row0.take row.length →
        ∃ a len cap vs, xv = .slice a len cap ∧ row.length = len * es ∧ VRs G row vs ∧ (∀ v ∈ vs, v.oneCell' = true) ∧ ((a = none ∧ len = 0 ∧ cap = 0) ∨ ∃ b o, a = some ⟨b, o, none⟩ ∧ len ≤ cap ∧ ∀ j v, vs[j]? = some v → w.cell? ⟨b, o + j, none⟩ = some v) ∨
          (row = [] ∧ ∃ a cap, xv = .slice (some a) 0 cap) := by
      intro row hl hle heq
      cases hx with
      | is0 a cap => exact ⟨none, 0, 0, [], .inr ⟨by rw [heq, List.take_nil], a, cap, rfl⟩⟩
      | is _ _ _ b o cap l hH hlen hc ht hh h1 =>
        obtain ⟨arr, t, fr, m, hb, hm⟩ := hR.prot b l hH
        refine ⟨_, _, cap, (l.drop o).take row.length, .inl ⟨rfl, hl, VRs.of_row (by omega) (fun j a v ha hv => hh j a v (by rw [heq, List.getElem?_take] at ha; split at ha <;> first | exact ha | cases ha) hv), fun v hv => ?_, .inr ⟨b, o, rfl, hc, fun j v hv => ?_⟩⟩⟩
        · obtain ⟨j, hj, rfl⟩ := List.getElem_of_mem hv
          simp only [List.length_take, List.length_drop] at hj
          refine h1 j _ (by omega) ?_
          rw [List.getElem_take, List.getElem_drop]
          exact List.getElem?_eq_getElem _
        · rw [List.getElem?_take] at hv
          split at hv
          · rw [List.getElem?_drop] at hv
            rw [cell_at hb, ← Array.getElem?_toList, hm, List.getElem?_append_left (List.getElem?_eq_some_iff.1 hv).1]
            exact hv
          · cases hv
    split at h
    · rename_i hl
      cases h
      exact one hl (Nat.le_refl _) (List.take_length).symm
    · split at h
      · rename_i hl
        cases h
        have hlen : (row0.take (len * es)).length = len * es := by rw [List.length_take]; omega
        exact one hlen (by omega) (by rw [hlen])
      · cases h
  · rename_i id g off len es'
    split at h
    · rename_i hes
      subst hes
      split at h
      · rename_i g' cs fz hid
        split at h
        · rename_i hc
          obtain ⟨rfl, hc⟩ := hc
          cases h
          obtain ⟨b, o, arr, t, fr, h1, h2, h3, h4, h5, h6, h7, h9, h8⟩ := hR.obj id _ hid
          cases hx with
          | ms _ _ _ _ _ b' o' cap a hρ hcap ha =>
            rw [h1] at hρ
            cases hρ
            have hlen : ((cs.drop off).take (len * es')).length = len * es' := by simp; omega
            rcases ha with ha | ⟨rfl, n, hn1, hn2⟩
            · subst ha
              have : len = 0 := by omega
              subst this
              exact ⟨none, 0, 0, [], .inr ⟨by simp, a, 0, rfl⟩⟩
            · refine ⟨_, _, cap, (((arr.toList.drop o).take cs.length).drop off).take (len * es'), .inl ⟨rfl, hlen, (h7.drop off).take _, fun v hv => h9 v (List.mem_of_mem_drop (List.mem_of_mem_take hv)), .inr ⟨b, o + off, rfl, hcap, fun j v hv => ?_⟩⟩⟩
              rw [cell_at h5, ← Array.getElem?_toList]
              rw [List.getElem?_take] at hv
              split at hv
              · rw [List.getElem?_drop, List.getElem?_take] at hv
                split at hv
                · rw [List.getElem?_drop] at hv
                  rw [← hv]; congr 1; omega
                · cases hv
              · cases hv
        · cases h
      · cases h
    · cases h
  · cases h

/-- What is put behind. -/
theorem tailOf_sound (hT : TabOk P A) (hR : Rel A.bld A.u8 w0 G st w) {te : TD} {tx : TypeId} {y : AV} {yv : Value} {b : Bool} {new : List AV} {n : Nat} (hb : srcStr A te tx = some b) (h : tailOf b te.size st y = some (new, n)) (hy : VR G y yv)
    (hsz : isU8 te = true → te.size = 1) : ∃ news, Src P te.size tx yv n news w ∧ VRs G new news := by
  unfold srcStr at hb
  cases ht : assoc tx A.tab with
  | none => simp [ht] at hb
  | some tdx =>
    simp only [ht, Option.bind_some] at hb
    obtain ⟨_, d, _, hd, _, _, hk, _⟩ := (hT tx tdx ht).ok
    split at hb
    · rename_i e he
      cases hb
      rw [he] at hk
      obtain rfl := kk_slice hk
      unfold tailOf at h
      simp only [Bool.false_eq_true, if_false] at h
      have fin : ∀ {row : List AV} {len : Nat}, rowOf st te.size y = some row → (∀ a l c, yv = .slice a l c → l = len) → (row, len) = (new, n) → ∃ news, Src P te.size tx yv n news w ∧ VRs G new news := by
        intro row len hr hl heq
        cases heq
        obtain ⟨a, l2, c, vs, hh⟩ := rowOf_sound hR hr hy
        rcases hh with ⟨rfl, h1, h2, h3, h4⟩ | ⟨rfl, a, cap, rfl⟩
        · obtain rfl := hl _ _ _ rfl
          refine ⟨vs, ?_, h2⟩
          rcases h4 with ⟨rfl, rfl, rfl⟩ | ⟨b, o, rfl, h5, h6⟩
          · have : vs = [] := List.eq_nil_of_length_eq_zero (by rw [← h2.len, h1]; simp)
            subst this
            exact Src.ofNil w hd 0
          · exact Src.ofSlice w hd _ _ _ vs (by rw [← h2.len, h1]) (fun j u hu => by rw [add_lit]; exact h6 j u hu) h3
        · obtain rfl := hl _ _ _ rfl
          exact ⟨[], Src.ofSlice w hd a 0 cap [] (by simp) (by simp) (by simp), VRs.nil G⟩
      split at h
      · simp only [Option.some.injEq] at h
        exact fin (row := []) (len := 0) rfl (by cases hy; intro a l c hh; cases hh; rfl) h
      · rename_i row len tok
        cases hr : rowOf st te.size (.is row len tok) with
        | none => simp [hr] at h
        | some r =>
          simp only [hr, Option.bind_some, Option.some.injEq] at h
          exact fin hr (by cases hy <;> (intro a l c hh; cases hh; rfl)) h
      · rename_i id g off len es'
        cases hr : rowOf st te.size (.ms id g off len es') with
        | none => simp [hr] at h
        | some r =>
          simp only [hr, Option.bind_some, Option.some.injEq] at h
          exact fin hr (by cases hy; intro a l c hh; cases hh; rfl) h
      · cases h
    · rename_i he
      split at hb
      · rename_i hu8
        cases hb
        rw [he] at hk
        obtain rfl := kk_str hk
        unfold tailOf at h
        simp only [if_true] at h
        split at h
        · rename_i s
          cases h
          cases hy
          rw [hsz hu8]
          exact ⟨byteCells s, Src.ofString w hd s, bytesAV_VRs s G⟩
        · cases h
      · cases hb
    · cases hb

theorem room_spec {bytes n : Nat} (h : room bytes n = true) : n * bytes ≤ 140737488355328 ∧ n ≤ 4611686018427387904 := by simpa [room] using h

theorem zeroCells_size (z : Array Value) (n : Nat) : (Builtin.zeroCells z n).size = n * z.size := by simp [Builtin.zeroCells]

/-- A tip is told anew, and stays. -/
theorem bump_tip {T e : TypeId} {own : Nat → Option Nat} (h : RelO T e w0 G own st w) {i g : Nat} (hi : st[i]? = some (.tip g)) : ∃ G', G.le G' ∧ RelO T e w0 G' own (st.set i (.tip (g + 1))) w := by
  obtain ⟨b, l, arr, t, fr, u1, u2, u3, u4, u5, u6⟩ := h.obj i _ hi
  have hle : G.le { ρ := fun i' g'' => if i' = i ∧ g'' = g + 1 then some (b, l.length) else G.ρ i' g'', H := G.H, Z := G.Z } := by
    refine ⟨fun i' g'' y hy => ?_, fun k l2 hk2 => ⟨[], by simpa using hk2⟩, fun _ _ hx => hx⟩
    obtain ⟨ob, ho, hv⟩ := h.dom i' g'' y hy
    simp only
    rw [if_neg (fun e => by obtain ⟨rfl, rfl⟩ := e; rw [hi] at ho; cases ho; simp [Ob.ver] at hv; omega)]
    exact hy
  refine ⟨_, hle, h.upd (S := fun _ => False) i _ rfl rfl rfl (Nat.le_refl _) (fun _ _ => rfl) (fun _ h => h.elim) hle (fun _ _ => rfl) (fun _ _ h => h.elim) (fun k nn hnn => .inl ⟨id, hnn⟩)
    (.inl ⟨rfl, _, hi, by simp [Ob.ver]⟩) (fun _ => .inl rfl) (fun j gg x hx => ?_) ?_⟩
  · simp only at hx
    split at hx
    · rename_i hj; exact .inr ⟨hj.1, by simp [Ob.ver, hj.2]⟩
    · exact .inl hx
  · exact ⟨b, l, arr, t, fr, by simp, u2, u3, u4, u5, u6⟩

/-- A tip goes to a new row. -/
theorem move_tip {own : Nat → Option Nat} (hR : RelO A.bld A.u8 w0 G own st w) {i g : Nat} (hi : st[i]? = some (.tip g)) (l m : List Value) (arr : Array Value) (harr : arr.toList = l ++ m) (t : TypeId) :
    ∃ G', G.le G' ∧ Rel A.bld A.u8 w0 G' (st.set i (.tip (g + 1))) (w.alloc (.cells arr t)) ∧ G'.ρ i (g + 1) = some (w.heap.size, l.length) ∧ G'.Z w.heap.size = some arr.size ∧ G'.H w.heap.size = some l := by
  obtain ⟨fH, fZ, fo⟩ := hR.fresh
  have hle : G.le { ρ := fun i' g'' => if i' = i ∧ g'' = g + 1 then some (w.heap.size, l.length) else G.ρ i' g'', H := fun b => if b = w.heap.size then some l else G.H b, Z := fun b => if b = w.heap.size then some arr.size else G.Z b } := by
    refine ⟨fun i' g'' y hy => ?_, fun b l hb => ⟨[], ?_⟩, fun b n hb => ?_⟩
    · obtain ⟨ob, ho, hv⟩ := hR.dom i' g'' y hy
      simp only
      rw [if_neg (fun e => by obtain ⟨rfl, rfl⟩ := e; rw [hi] at ho; cases ho; simp [Ob.ver] at hv; omega)]
      exact hy
    · simp only [List.append_nil]
      rw [if_neg (fun e => by subst e; rw [fH] at hb; cases hb)]
      exact hb
    · simp only
      rw [if_neg (fun e => by subst e; rw [fZ] at hb; cases hb)]
      exact hb
  refine ⟨_, hle, ⟨fun k => if k = w.heap.size then some i else own k, hR.upd (S := fun k => k = w.heap.size) i (.tip (g + 1)) rfl rfl rfl (by show w.heap.size ≤ (w.heap.push _).size; simp) (fun k hk => ?_) (fun k hk => ?_) hle (fun k hk => by simp [hk]) (fun k l2 hk hl2 => ?_) (fun k n hn => ?_)
    (.inl ⟨rfl, _, hi, by simp [Ob.ver]⟩) (fun k => ?_) (fun j gg x hx => ?_) ?_⟩, by simp, by simp, by simp⟩
  · show (w.heap.push _)[k]? = _
    rw [Array.getElem?_push, if_neg hk]
  · subst hk; exact ⟨hR.below.size, .inl fo⟩
  · subst hk
    simp only [if_true, Option.some.injEq] at hl2
    subst hl2
    exact ⟨arr, t, (0, 0), m, alloc_at w _, harr⟩
  · simp only at hn
    split at hn
    · rename_i hk; cases hn; subst hk; exact .inr ⟨arr, t, (0, 0), alloc_at w _, rfl⟩
    · rename_i hk; exact .inl ⟨hk, hn⟩
  · by_cases hk : k = w.heap.size
    · exact .inr ⟨hk, .inl (by simp [hk]), by subst hk; show _ < (w.heap.push _).size; simp⟩
    · exact .inl (by simp [hk])
  · simp only at hx
    split at hx
    · rename_i hj; exact .inr ⟨hj.1, by simp [Ob.ver, hj.2]⟩
    · exact .inl hx
  · exact ⟨w.heap.size, l, arr, t, (0, 0), by simp, by simp, by simp, by simp, alloc_at w _, fun k _ _ => by omega⟩

/-- An array goes to a new block. -/
theorem move_cells {own : Nat → Option Nat} (hR : RelO A.bld A.u8 w0 G own st w) {i g : Nat} {cs0 : List AV} {fz : Nat} (hi : st[i]? = some (.cells g cs0 fz)) (arr : Array Value) (t : TypeId) (cs : List AV) (l m : List Value) (harr : arr.toList = l ++ m) (hv : VRs G cs l) (h1 : ∀ v ∈ l, v.oneCell' = true) :
    ∃ G', G.le G' ∧ Rel A.bld A.u8 w0 G' (st.set i (.cells (g + 1) cs 0)) (w.alloc (.cells arr t)) ∧ G'.ρ i (g + 1) = some (w.heap.size, 0) ∧ G'.Z w.heap.size = some arr.size := by
  obtain ⟨fH, fZ, fo⟩ := hR.fresh
  have has : arr.size = l.length + m.length := by rw [← Array.length_toList, harr, List.length_append]
  have hcl := hv.len
  have htk : (arr.toList.drop 0).take cs.length = l := by rw [List.drop_zero, harr, hcl, List.take_left]
  have hle : G.le { ρ := fun i' g'' => if i' = i ∧ g'' = g + 1 then some (w.heap.size, 0) else G.ρ i' g'', H := G.H, Z := fun b => if b = w.heap.size then some arr.size else G.Z b } := by
    refine ⟨fun i' g'' y hy => ?_, fun b l hb => ⟨[], by simpa using hb⟩, fun b n hb => ?_⟩
    · obtain ⟨ob, ho, hv⟩ := hR.dom i' g'' y hy
      simp only
      rw [if_neg (fun e => by obtain ⟨rfl, rfl⟩ := e; rw [hi] at ho; cases ho; simp [Ob.ver] at hv; omega)]
      exact hy
    · simp only
      rw [if_neg (fun e => by subst e; rw [fZ] at hb; cases hb)]
      exact hb
  refine ⟨_, hle, ⟨fun k => if k = w.heap.size then some i else own k, hR.upd (S := fun k => k = w.heap.size) i (.cells (g + 1) cs 0) rfl rfl rfl (by show w.heap.size ≤ (w.heap.push _).size; simp) (fun k hk => ?_) (fun k hk => ?_) hle (fun k hk => rfl) (fun k l2 hk hl2 => ?_) (fun k n hn => ?_)
    (.inl ⟨rfl, _, hi, by simp [Ob.ver]⟩) (fun k => ?_) (fun j gg x hx => ?_) ?_⟩, by simp, by simp⟩
  · show (w.heap.push _)[k]? = _
    rw [Array.getElem?_push, if_neg hk]
  · subst hk; exact ⟨hR.below.size, .inl fo⟩
  · subst hk; simp only at hl2; rw [fH] at hl2; cases hl2
  · simp only at hn
    split at hn
    · rename_i hk; cases hn; subst hk; exact .inr ⟨arr, t, (0, 0), alloc_at w _, rfl⟩
    · rename_i hk; exact .inl ⟨hk, hn⟩
  · by_cases hk : k = w.heap.size
    · exact .inr ⟨hk, .inl (by simp [hk]), by subst hk; show _ < (w.heap.push _).size; simp⟩
    · exact .inl (by simp [hk])
  · simp only at hx
    split at hx
    · rename_i hj; exact .inr ⟨hj.1, by simp [Ob.ver, hj.2]⟩
    · exact .inl hx
  · exact ⟨w.heap.size, 0, arr, t, (0, 0), by simp, by simp, fH, by simp, alloc_at w _, by omega, by rw [htk]; exact hv.mono hle, by rw [htk]; exact h1, fun _ => free0 _ _⟩

set_option maxHeartbeats 1000000 in
theorem g_append (hT : TabOk P A) (hR : Rel A.bld A.u8 w0 G st w) {wr : Bool} {t tx ty : TypeId} {x y : AV} {xv yv : Value} {v : AV} (h : appendA A wr t tx x y st = some (v, st')) (hx : VR G x xv) (hy : VR G y yv) :
    Gives P A w0 G (Builtin.append_ #[t, tx] ty #[xv, yv]) w v st' := by
  unfold appendA at h
  cases ht : assoc t A.tab with
  | none => simp [ht] at h
  | some td =>
  simp only [ht, Option.bind_some] at h
  obtain ⟨i, d, hi, hd, hs, _, hk, _⟩ := (hT t td ht).ok
  split at h
  case h_2 => cases h
  rename_i e hfs
  rw [hfs] at hk
  obtain rfl := kk_slice hk
  cases hte : assoc e A.tab with
  | none => simp [hte] at h
  | some te =>
  simp only [hte, Option.bind_some] at h
  obtain ⟨ie, de, hie, hde, hse, hbe, hke, z, hz, hzr, hag, hnag, hzl⟩ := (hT e te hte).ok
  obtain ⟨z1, z2, z3⟩ := zero_cells hzr hzl G
  cases hsr : srcStr A te tx with
  | none => simp [hsr] at h
  | some b =>
  simp only [hsr, Option.bind_some] at h
  unfold appL at h
  cases hta : tailOf b te.size st y with
  | none => simp [hta] at h
  | some p =>
  obtain ⟨new, n⟩ := p
  simp only [hta, Option.bind_some] at h
  have hsz1 : isU8 te = true → te.size = 1 := by
    intro hu
    have : td.isAgg = td.isAgg := rfl
    have ha : te.isAgg = false := by unfold isU8 at hu; unfold TD.isAgg; split at hu <;> simp_all
    have h1 := hnag ha
    have h2 := z2
    rw [cells_one h1] at h2
    simpa using h2.symm
  obtain ⟨news, hsrc, hnv⟩ := tailOf_sound hT hR hsr hta hy hsz1
  have hsrc' : Src P ie.size tx yv n news w := by rw [hse]; exact hsrc
  have hnl : news.length = n * te.size := hsrc.newsLen
  have hnl' : new.length = n * te.size := by rw [hnv.len, hnl]
  -- a new row behind 'olds'
  have grow : ∀ (base : Option Addr) (len cap : Nat) (olds : List Value) (row : List AV), VRs G row olds → (∀ v ∈ olds, v.oneCell' = true) → olds.length = len * te.size → (Builtin.firstCells ie.size len (.slice base len cap)).run P w.drew = .ok olds.toArray w.drew →
      cap < len + n → room te.bytes (len + n) = true →
      ∃ arr cap', (Builtin.append_ #[t, tx] ty #[.slice base len cap, yv]).run P w = .ok (.slice (some ⟨w.heap.size, 0, none⟩) (len + n) cap') (w.drew.alloc (.cells arr e)) ∧ len + n ≤ cap' ∧ arr.size = cap' * te.size ∧
        (∃ m, arr.toList = (olds ++ news) ++ m) ∧ VRs G (row ++ new) (olds ++ news) ∧ (olds ++ news).length = (len + n) * te.size ∧ ∀ v ∈ olds ++ news, v.oneCell' = true := by
    intro base len cap olds row hvo hone hlo hfc hcap hroom
    obtain ⟨r1, r2⟩ := room_spec hroom
    have hrun := run_append_grow_src w t tx ty e ie z hd hie hz base len cap olds hfc yv n news hsrc' hcap (by omega) (growslice_fits hcap (by rw [hbe]; exact r1))
    refine ⟨_, _, hrun, grownCap_ge _ _ _ _, ?_, ⟨_, by rw [Array.toList_append]⟩, hvo.append hnv, by rw [List.length_append, hlo, hnl, Nat.add_mul], fun v hv => ?_⟩
    · rw [Array.size_append, zeroCells_size, z2]
      simp only [List.size_toArray, List.length_append, hlo, hnl]
      have := grownCap_ge w (len + n) cap e
      rw [Nat.sub_mul, ← Nat.add_mul]
      have := Nat.mul_le_mul_right te.size this
      omega
    · rcases List.mem_append.1 hv with hv | hv
      · exact hone v hv
      · exact hsrc.one v hv
  have drew : Rel A.bld A.u8 w0 G st w.drew := rel_drawn hR _
  have hsd : w.drew.heap.size = w.heap.size := rfl
  -- the value of a new row with a tip
  have newtip : ∀ (base : Option Addr) (len cap : Nat) (olds : List Value) (row : List AV), VRs G row olds → (∀ v ∈ olds, v.oneCell' = true) → olds.length = len * te.size → (Builtin.firstCells ie.size len (.slice base len cap)).run P w.drew = .ok olds.toArray w.drew →
      cap < len + n → room te.bytes (len + n) = true → Gives P A w0 G (Builtin.append_ #[t, tx] ty #[.slice base len cap, yv]) w (.is (row ++ new) (len + n) (.tip st.length 0 te.size)) (st ++ [.tip 0]) := by
    intro base len cap olds row a1 a2 a3 a4 a5 a6
    obtain ⟨arr, cap', hrun, b1, b2, ⟨m, b3⟩, b4, b5, b6⟩ := grow base len cap olds row a1 a2 a3 a4 a5 a6
    obtain ⟨G', k1, k2, k3, k4, k5⟩ := rel_newtip drew (olds ++ news) m arr b3 e
    have hlr : (row ++ new).length = (olds ++ news).length := b4.len
    refine ⟨_, _, G', hrun, k1, k2, .is _ _ _ w.heap.size 0 cap' (olds ++ news) k5 (by omega) b1 ⟨⟨_, _, k3⟩, .inr ⟨?_, by rw [hlr, b5], _, k4, by rw [b2]; omega⟩⟩ (fun j a v ha hv => (b4.mono k1).at_ j a v ha (by simpa using hv)) (fun j v _ hv => b6 v (List.mem_of_getElem? hv))⟩
    rw [k3, hlr, Nat.zero_add]
    rfl
  have newms : ∀ (base : Option Addr) (len cap : Nat) (olds : List Value) (row : List AV), VRs G row olds → (∀ v ∈ olds, v.oneCell' = true) → olds.length = len * te.size → (Builtin.firstCells ie.size len (.slice base len cap)).run P w.drew = .ok olds.toArray w.drew →
      cap < len + n → room te.bytes (len + n) = true → Gives P A w0 G (Builtin.append_ #[t, tx] ty #[.slice base len cap, yv]) w (.ms st.length 0 0 (len + n) te.size) (st ++ [.cells 0 (row ++ new) 0]) := by
    intro base len cap olds row a1 a2 a3 a4 a5 a6
    obtain ⟨arr, cap', hrun, b1, b2, ⟨m, b3⟩, b4, b5, b6⟩ := grow base len cap olds row a1 a2 a3 a4 a5 a6
    have hlr : (row ++ new).length = (olds ++ news).length := b4.len
    have has : arr.size = (olds ++ news).length + m.length := by rw [← Array.length_toList, b3, List.length_append]
    have htk : (arr.toList.drop 0).take (row ++ new).length = olds ++ news := by rw [List.drop_zero, b3, hlr, List.take_left]
    obtain ⟨G', k1, k2, k3, k4⟩ := rel_newcells drew arr e (0, 0) (row ++ new) 0 0 (by omega) (by rw [htk]; exact b4) (by rw [htk]; exact b6) (free0 _ _)
    exact ⟨_, _, G', hrun, k1, k2, .ms _ 0 0 _ te.size _ 0 cap' _ k3 b1 (.inr ⟨rfl, _, k4, by rw [b2]; omega⟩)⟩
  have same0 : n = 0 → ∀ a len cap, xv = .slice a len cap → len ≤ cap → (cap ≠ 0 ∨ True) → (Builtin.append_ #[t, tx] ty #[xv, yv]).run P w = .ok xv w := by
    intro hn a len cap hxv hlc _
    subst hxv
    have hnn : news = [] := List.eq_nil_of_length_eq_zero (by rw [hnl, hn]; simp)
    subst hn
    have hnd : len + 0 ≤ cap := by omega
    have hcells := hsrc'.cells
    rw [hnn] at hcells
    rcases hsrc'.kind with ⟨e', hk'⟩ | hk' <;> cases a <;> simp [Builtin.append_, run_underlying hd, run_underlying hk', sizeOf, typeInfo, hie, hsrc'.len, hlc, hcells, storeCells]
  split at h
  · -- nil
    cases hx
    split at h
    · rename_i hn
      simp only [Option.some.injEq, Prod.mk.injEq] at h
      obtain ⟨rfl, rfl⟩ := h
      exact Gives.same hR (same0 hn _ _ _ rfl (Nat.le_refl _) (.inr trivial)) .nils
    · rename_i hn
      split at h
      · rename_i hroom
        have hfc : (Builtin.firstCells ie.size 0 (.slice none 0 0)).run P w.drew = .ok ([] : List Value).toArray w.drew := rfl
        split at h
        · simp only [Option.some.injEq, Prod.mk.injEq] at h
          obtain ⟨rfl, rfl⟩ := h
          have := newms none 0 0 [] [] (VRs.nil G) (by simp) (by simp) hfc (by omega) (by simpa using hroom)
          simpa using this
        · simp only [Option.some.injEq, Prod.mk.injEq] at h
          obtain ⟨rfl, rfl⟩ := h
          have := newtip none 0 0 [] [] (VRs.nil G) (by simp) (by simp) hfc (by omega) (by simpa using hroom)
          simpa using this
      · cases h
  · -- a full row
    rename_i row len
    cases hx with
    | is _ _ _ b o cap l hH hlen hc htk hh h1 =>
      simp only [TokR] at htk
      subst htk
      split at h
      · rename_i hn
        simp only [Option.some.injEq, Prod.mk.injEq] at h
        obtain ⟨rfl, rfl⟩ := h
        exact Gives.same hR (same0 hn _ _ _ rfl (Nat.le_refl _) (.inr trivial)) (.is _ _ _ b o cap l hH hlen hc rfl hh h1)
      · rename_i hn
        split at h
        · rename_i hcond
          obtain ⟨hrl, hroom⟩ := hcond
          have hrow : rowOf st te.size (.is row cap .full) = some row := by simp [rowOf, hrl]
          obtain ⟨a, l2, c2, vs, hh2⟩ := rowOf_sound drew hrow (.is row cap .full b o cap l hH hlen hc rfl hh h1)
          rcases hh2 with ⟨heq, q1, q2, q3, q4⟩ | ⟨hr0, a, cx, heq⟩
          · cases heq
            rcases q4 with ⟨q5, _⟩ | ⟨b', o', q5, q6, q7⟩
            · cases q5
            · cases q5
              have hfc : (Builtin.firstCells ie.size cap (.slice (some ⟨b, o, none⟩) cap cap)).run P w.drew = .ok vs.toArray w.drew :=
                run_firstCells_some w.drew ie.size cap ⟨b, o, none⟩ cap cap vs (by rw [hse, ← q1, q2.len]) (fun j v hv => by rw [add_lit]; exact q7 j v hv)
              have hvl : vs.length = cap * te.size := by rw [← q2.len, q1]
              split at h
              · simp only [Option.some.injEq, Prod.mk.injEq] at h
                obtain ⟨rfl, rfl⟩ := h
                exact newms _ cap cap vs row q2 q3 hvl hfc (by omega) hroom
              · simp only [Option.some.injEq, Prod.mk.injEq] at h
                obtain ⟨rfl, rfl⟩ := h
                exact newtip _ cap cap vs row q2 q3 hvl hfc (by omega) hroom
          · cases heq
            have hfc : (Builtin.firstCells ie.size 0 (.slice (some ⟨b, o, none⟩) 0 0)).run P w.drew = .ok ([] : List Value).toArray w.drew :=
              run_firstCells_some w.drew ie.size 0 ⟨b, o, none⟩ 0 0 [] (by simp) (by simp)
            subst hr0
            split at h
            · simp only [Option.some.injEq, Prod.mk.injEq] at h
              obtain ⟨rfl, rfl⟩ := h
              exact newms _ 0 0 [] [] (VRs.nil G) (by simp) (by simp) hfc (by omega) (by simpa using hroom)
            · simp only [Option.some.injEq, Prod.mk.injEq] at h
              obtain ⟨rfl, rfl⟩ := h
              exact newtip _ 0 0 [] [] (VRs.nil G) (by simp) (by simp) hfc (by omega) (by simpa using hroom)
        · cases h
  · -- a row with its tip
    rename_i row len ti g es
    split at h
    case isFalse => cases h
    rename_i hcond
    obtain ⟨hrl, rfl, hroom⟩ := hcond
    split at h
    case h_2 => cases h
    rename_i g' hti
    split at h
    case isFalse => cases h
    rename_i hg
    subst hg
    simp only [Option.some.injEq, Prod.mk.injEq] at h
    obtain ⟨rfl, rfl⟩ := h
    cases hx with
    | is _ _ _ b o cap l hH hlen hc htk hh h1 =>
    by_cases hroomy : len + n ≤ cap
    · by_cases hcap : cap = len
      · -- nothing is put behind
        have hn : n = 0 := by omega
        have hnew : new = [] := List.eq_nil_of_length_eq_zero (by rw [hnl', hn]; simp)
        subst hnew
        obtain ⟨own, hRo⟩ := hR
        obtain ⟨G', k1, k2⟩ := bump_tip hRo hti
        refine ⟨_, _, G', same0 hn _ _ _ rfl hc (.inr trivial), k1, ⟨own, k2⟩, ?_⟩
        rw [List.append_nil, hn]
        exact VR.mono k1 (.is _ _ _ b o cap l hH hlen hc ⟨htk.1, .inl hcap⟩ hh h1)
      · rcases htk.2 with htk | ⟨t1, t2, nz, t3, t4⟩
        · exact absurd htk hcap
        · obtain ⟨own, hRo⟩ := hR
          obtain ⟨b', l', arr, tt, fr, u1, u2, u3, u4, u5, u6⟩ := hRo.obj ti _ hti
          rw [t1] at u1
          simp only [Option.some.injEq, Prod.mk.injEq] at u1
          obtain ⟨rfl, hll⟩ := u1
          rw [hH] at u3
          cases u3
          rw [t3] at u4
          cases u4
          have hmul : (len + n) * te.size ≤ cap * te.size := Nat.mul_le_mul_right _ hroomy
          rw [Nat.add_mul] at hmul
          have hrun := run_append_room_src w t tx ty e ie hd hie b o len cap yv n news hsrc' hroomy
            (fun j hj => by rw [cell_at u5, Array.getElem?_eq_getElem (by rw [hse]; omega)]; rfl)
            (fun j hj => by
              have := u6 (o + len * ie.size + j) (by rw [hse]; omega) (by rw [hse]; omega)
              obtain ⟨lo, hi'⟩ := fr
              simp only at this
              simp only [World.frozen?, u5, Bool.and_eq_false_iff, decide_eq_false_iff_not]
              omega)
          rw [hse] at hrun
          have hll' : o + len * te.size = l.length := by omega
          obtain ⟨arr0, tt0, fr0, m, v1, v2⟩ := hRo.prot b l hH
          rw [u5] at v1
          cases v1
          have hasz : arr.size = l.length + m.length := by rw [← Array.length_toList, v2, List.length_append]
          have hspl : splice arr.toList (o + len * te.size) news = (l ++ news) ++ m.drop news.length := by
            rw [hll', v2]
            unfold splice
            rw [List.take_left, List.drop_append, List.drop_of_length_le (by omega), List.nil_append, List.append_assoc]
            congr 3
            omega
          have hb := setCells_heap b tt fr news (o + len * te.size) w arr u5 (by omega)
          rw [hspl] at hb
          have hsm := setCells_same b news (o + len * te.size) w
          have hle : G.le { ρ := fun i' g'' => if i' = ti ∧ g'' = g' + 1 then some (b, l.length + n * te.size) else G.ρ i' g'', H := fun k => if k = b then some (l ++ news) else G.H k, Z := G.Z } := by
            refine ⟨fun i' g'' x hx => ?_, fun k l2 hk2 => ?_, fun _ _ hx => hx⟩
            · obtain ⟨ob, ho, hv⟩ := hRo.dom i' g'' x hx
              simp only
              rw [if_neg (fun e => by obtain ⟨rfl, rfl⟩ := e; rw [hti] at ho; cases ho; simp [Ob.ver] at hv; omega)]
              exact hx
            · by_cases hkb : k = b
              · subst hkb; rw [hH] at hk2; cases hk2; exact ⟨news, by simp⟩
              · exact ⟨[], by simp [hkb, hk2]⟩
          refine ⟨_, _, _, hrun, hle, ⟨own, hRo.upd (S := fun k => k = b) ti (.tip (g' + 1)) hsm.1 hsm.2.1 hsm.2.2.1 (by rw [hsm.2.2.2]; exact Nat.le_refl _) (fun k hk => setCells_far b news _ w k hk) (fun k hk => ?_) hle (fun k hk => by simp [hk])
            (fun k l2 hk hl2 => ?_) (fun k nn hnn => ?_) (.inl ⟨rfl, _, hti, by simp [Ob.ver]⟩) (fun k => .inl rfl) (fun j gg x hx => ?_) ?_⟩, ?_⟩
          · subst hk; exact ⟨(hRo.ownlt _ _ u2).1, .inr u2⟩
          · subst hk
            simp only [if_true, Option.some.injEq] at hl2
            subst hl2
            exact ⟨_, tt, fr, m.drop news.length, hb, by simp⟩
          · by_cases hkb : k = b
            · subst hkb
              simp only at hnn
              rw [t3] at hnn
              cases hnn
              exact .inr ⟨_, tt, fr, hb, by simp; omega⟩
            · exact .inl ⟨hkb, hnn⟩
          · simp only at hx
            split at hx
            · rename_i hj; exact .inr ⟨hj.1, by simp [Ob.ver, hj.2]⟩
            · exact .inl hx
          · refine ⟨b, l ++ news, _, tt, fr, by simp [hnl], u2, by simp, ?_, hb, fun k hk1 hk2 => ?_⟩
            · simp only [t3, List.size_toArray, List.length_append, List.length_drop, Option.some.injEq]; omega
            · simp only [List.length_append, hnl] at hk1
              simp only [List.size_toArray, List.length_append, List.length_drop] at hk2
              exact u6 k (by omega) (by omega)
          · refine .is _ _ _ b o cap (l ++ news) (by simp) (by simp; omega) hroomy ⟨⟨g' + 1, _, if_pos ⟨rfl, rfl⟩⟩, .inr ⟨?_, ?_, _, t3, t4⟩⟩ (fun j a v ha hv => ?_) (fun j v hj hv => ?_)
            · simp only [List.length_append, hnl', and_self, if_true, Option.some.injEq, Prod.mk.injEq, true_and]
              omega
            · rw [List.length_append, hrl, hnl', Nat.add_mul]
            · by_cases hj : j < row.length
              · rw [List.getElem?_append_left hj] at ha
                rw [List.getElem?_append_left (by omega)] at hv
                exact (hh j a v ha hv).mono hle
              · rw [List.getElem?_append_right (by omega)] at ha
                rw [List.getElem?_append_right (by omega)] at hv
                exact (hnv.mono hle).at_ _ a v ha (by rw [← hv]; congr 1; omega)
            · by_cases hj2 : j < row.length
              · rw [List.getElem?_append_left (by omega)] at hv
                exact h1 j v hj2 hv
              · rw [List.getElem?_append_right (by omega)] at hv
                exact hsrc.one v (List.mem_of_getElem? hv)
    · -- a new row
      have hrow : rowOf st te.size (.is row len (.tip ti g' te.size)) = some row := by simp [rowOf, hrl]
      obtain ⟨a, l2, c2, vs, hh2⟩ := rowOf_sound drew hrow (.is row len (.tip ti g' te.size) b o cap l hH hlen hc htk hh h1)
      have fin : ∀ (vs : List Value), VRs G row vs → (∀ v ∈ vs, v.oneCell' = true) → vs.length = len * te.size → (Builtin.firstCells ie.size len (.slice (some ⟨b, o, none⟩) len cap)).run P w.drew = .ok vs.toArray w.drew →
          Gives P A w0 G (Builtin.append_ #[t, tx] ty #[.slice (some ⟨b, o, none⟩) len cap, yv]) w (.is (row ++ new) (len + n) (.tip ti (g' + 1) te.size)) (st.set ti (.tip (g' + 1))) := by
        intro vs q2 q3 hvl hfc
        obtain ⟨arr, cap', hrun, b1, b2, ⟨m, b3⟩, b4, b5, b6⟩ := grow _ len cap vs row q2 q3 hvl hfc (by omega) hroom
        obtain ⟨own, hRo⟩ := drew
        obtain ⟨G', k1, k2, k3, k4, k5⟩ := move_tip hRo hti (vs ++ news) m arr b3 e
        have hlr : (row ++ new).length = (vs ++ news).length := b4.len
        refine ⟨_, _, G', hrun, k1, k2, .is _ _ _ w.heap.size 0 cap' (vs ++ news) k5 (by omega) b1 ⟨⟨_, _, k3⟩, .inr ⟨?_, by rw [hlr, b5], _, k4, by rw [b2]; omega⟩⟩ (fun j a v ha hv => (b4.mono k1).at_ j a v ha (by simpa using hv)) (fun j v _ hv => b6 v (List.mem_of_getElem? hv))⟩
        rw [k3, hlr, Nat.zero_add]
        rfl
      rcases hh2 with ⟨heq, q1, q2, q3, q4⟩ | ⟨hr0, a, cx, heq⟩
      · cases heq
        rcases q4 with ⟨q5, _⟩ | ⟨b', o', q5, q6, q7⟩
        · cases q5
        · cases q5
          have hvl : vs.length = len * te.size := by rw [← q2.len, q1]
          exact fin vs q2 q3 hvl (run_firstCells_some w.drew ie.size len ⟨b, o, none⟩ len cap vs (by rw [hse, hvl]) (fun j v hv => by rw [add_lit]; exact q7 j v hv))
      · cases heq
        subst hr0
        exact fin [] (VRs.nil G) (by simp) (by simp) (run_firstCells_some w.drew ie.size 0 ⟨b, o, none⟩ 0 0 [] (by simp) (by simp))
  · -- an array
    rename_i ti g off len es
    split at h
    case isFalse => cases h
    rename_i hcond
    obtain ⟨rfl, hroom⟩ := hcond
    split at h
    case h_2 => cases h
    rename_i g' cs fz hti
    split at h
    case isFalse => cases h
    rename_i hg
    obtain ⟨rfl, hcl, rfl⟩ := hg
    simp only [Option.some.injEq, Prod.mk.injEq] at h
    obtain ⟨rfl, rfl⟩ := h
    obtain ⟨own, hRo⟩ := hR
    obtain ⟨b, o, arr, tt, fr, u1, u2, u3, u4, u5, u6, u7, u9, u8'⟩ := hRo.obj ti _ hti
    have u8 := u8' (Nat.zero_le _)
    cases hx with
    | ms _ _ _ _ _ b' o' cap a hρ hc ha =>
    rw [u1] at hρ
    cases hρ
    have hcs : ((cs.drop off).take (len * te.size)).length = len * te.size := by simp; omega
    have hleG : ∀ (x : Nat × Nat), G.le { ρ := fun i' g'' => if i' = ti ∧ g'' = g' + 1 then some x else G.ρ i' g'', H := G.H, Z := G.Z } := by
      intro x
      refine ⟨fun i' g'' y hy => ?_, fun k l2 hk2 => ⟨[], by simpa using hk2⟩, fun _ _ hx => hx⟩
      obtain ⟨ob, ho, hv⟩ := hRo.dom i' g'' y hy
      simp only
      rw [if_neg (fun e => by obtain ⟨rfl, rfl⟩ := e; rw [hti] at ho; cases ho; simp [Ob.ver] at hv; omega)]
      exact hy
    have hpart : ((arr.toList.drop (o + off)).take (len * te.size)) = (((arr.toList.drop o).take cs.length).drop off).take (len * te.size) := by
      rw [List.drop_take, List.take_take, List.drop_drop]
      congr 1
      omega
    have hpartV : VRs G ((cs.drop off).take (len * te.size)) ((arr.toList.drop (o + off)).take (len * te.size)) := by rw [hpart]; exact (u7.drop off).take _
    have hpart1 : ∀ v ∈ (arr.toList.drop (o + off)).take (len * te.size), v.oneCell' = true := by rw [hpart]; exact fun v hv => u9 v (List.mem_of_mem_drop (List.mem_of_mem_take hv))
    have hplen : ((arr.toList.drop (o + off)).take (len * te.size)).length = len * te.size := by rw [← hpartV.len, hcs]
    by_cases hroomy : len + n ≤ cap
    · rcases ha with ha | ⟨rfl, nz, t3, t4⟩
      · -- nothing is there, nothing is put behind
        subst ha
        have hn : n = 0 := by omega
        have hl0 : len = 0 := by omega
        subst hl0
        have hnew : new = [] := List.eq_nil_of_length_eq_zero (by rw [hnl', hn]; simp)
        subst hnew
        refine ⟨_, _, _, same0 hn _ _ _ rfl hc (.inr trivial), hleG (b, o), ⟨own, hRo.upd (S := fun _ => False) ti _ rfl rfl rfl (Nat.le_refl _) (fun _ _ => rfl) (fun _ h => h.elim) (hleG (b, o)) (fun _ _ => rfl) (fun _ _ h => h.elim) (fun k nn hnn => .inl ⟨id, hnn⟩)
          (.inl ⟨rfl, _, hti, by simp [Ob.ver]⟩) (fun _ => .inl rfl) (fun j gg x hx => ?_) ?_⟩, ?_⟩
        · simp only at hx
          split at hx
          · rename_i hj; exact .inr ⟨hj.1, by simp [Ob.ver, hj.2]⟩
          · exact .inl hx
        · refine ⟨b, o, arr, tt, fr, by simp, u2, u3, u4, u5, by simp; omega, by simpa using VRs.nil _, by simp, fun _ => u8⟩
        · rw [hn]
          exact .ms _ _ _ _ _ b o 0 a (by simp) (Nat.le_refl _) (.inl rfl)
      · rw [u4] at t3
        cases t3
        have hmul : (len + n) * te.size ≤ cap * te.size := Nat.mul_le_mul_right _ hroomy
        rw [Nat.add_mul] at hmul
        have hrun := run_append_room_src w t tx ty e ie hd hie b (o + off) len cap yv n news hsrc' hroomy
          (fun j hj => by rw [cell_at u5, Array.getElem?_eq_getElem (by rw [hse]; omega)]; rfl)
          (fun j hj => by
            have := u8 (o + off + len * ie.size + j) (by omega) (by rw [hse]; omega)
            obtain ⟨lo, hi'⟩ := fr
            simp only at this
            simp only [World.frozen?, u5, Bool.and_eq_false_iff, decide_eq_false_iff_not]
            omega)
        rw [hse] at hrun
        have hb := setCells_heap b tt fr news (o + off + len * te.size) w arr u5 (by omega)
        have hsl : (splice arr.toList (o + off + len * te.size) news).length = arr.size := by rw [splice_len _ _ _ (by simp; omega)]; simp
        have hsm := setCells_same b news (o + off + len * te.size) w
        have hle := hleG (b, o + off)
        have hnewpart : ((splice arr.toList (o + off + len * te.size) news).drop (o + off)).take (len * te.size + n * te.size) = (arr.toList.drop (o + off)).take (len * te.size) ++ news := by
          rw [splice_mid _ _ _ _ _ (by simp; omega) (by omega)]
          unfold splice
          have hd0 : ((arr.toList.drop (o + off)).take (len * te.size + n * te.size)).drop (len * te.size + news.length) = [] := List.drop_of_length_le (by simp; omega)
          rw [List.take_take, Nat.min_eq_left (by omega), hd0, List.append_nil]
        refine ⟨_, _, _, hrun, hle, ⟨own, hRo.upd (S := fun k => k = b) ti (.cells (g' + 1) ((cs.drop off).take (len * te.size) ++ new) 0) hsm.1 hsm.2.1 hsm.2.2.1 (by rw [hsm.2.2.2]; exact Nat.le_refl _) (fun k hk => setCells_far b news _ w k hk) (fun k hk => ?_) hle (fun _ _ => rfl)
          (fun k l2 hk hl2 => ?_) (fun k nn hnn => ?_) (.inl ⟨rfl, _, hti, by simp [Ob.ver]⟩) (fun k => .inl rfl) (fun j gg x hx => ?_) ?_⟩, ?_⟩
        · subst hk; exact ⟨(hRo.ownlt _ _ u2).1, .inr u2⟩
        · subst hk; simp only at hl2; rw [u3] at hl2; cases hl2
        · by_cases hkb : k = b
          · subst hkb
            simp only at hnn
            rw [u4] at hnn
            cases hnn
            exact .inr ⟨_, tt, fr, hb, by simpa using hsl⟩
          · exact .inl ⟨hkb, hnn⟩
        · simp only at hx
          split at hx
          · rename_i hj; exact .inr ⟨hj.1, by simp [Ob.ver, hj.2]⟩
          · exact .inl hx
        · have e1 : ((cs.drop off).take (len * te.size) ++ new).length = len * te.size + n * te.size := by rw [List.length_append, hcs, hnl']
          refine ⟨b, o + off, _, tt, fr, by simp, u2, u3, by simpa [hsl] using u4, hb, by rw [e1]; simp only [List.size_toArray, hsl]; omega, ?_, ?_, fun _ k hk1 hk2 => ?_⟩
          · rw [e1]
            simp only [List.toList_toArray, hnewpart]
            exact (hpartV.append hnv).mono hle
          · rw [e1]
            simp only [List.toList_toArray, hnewpart]
            intro v hv
            rcases List.mem_append.1 hv with hv | hv
            · exact hpart1 v hv
            · exact hsrc.one v hv
          · simp only [List.size_toArray, hsl] at hk2
            exact u8 k (by omega) hk2
        · refine .ms _ _ _ _ _ b (o + off) cap _ (by simp) hroomy (.inr ⟨rfl, _, u4, by omega⟩)
    · -- a new array
      have hrow : rowOf st te.size (.ms ti g' off len te.size) = some ((cs.drop off).take (len * te.size)) := by simp [rowOf, hti, hcl]
      have fin : ∀ (vs : List Value), VRs G ((cs.drop off).take (len * te.size)) vs → (∀ v ∈ vs, v.oneCell' = true) → vs.length = len * te.size → (Builtin.firstCells ie.size len (.slice (some a) len cap)).run P w.drew = .ok vs.toArray w.drew →
          Gives P A w0 G (Builtin.append_ #[t, tx] ty #[.slice (some a) len cap, yv]) w (.ms ti (g' + 1) 0 (len + n) te.size) (st.set ti (.cells (g' + 1) ((cs.drop off).take (len * te.size) ++ new) 0)) := by
        intro vs q2 q3 hvl hfc
        obtain ⟨arr', cap', hrun, b1, b2, ⟨m, b3⟩, b4, b5, b6⟩ := grow _ len cap vs _ q2 q3 hvl hfc (by omega) hroom
        obtain ⟨own', hRo'⟩ := drew
        have has : arr'.size = (vs ++ news).length + m.length := by rw [← Array.length_toList, b3, List.length_append]
        obtain ⟨G', k1, k2, k3, k4⟩ := move_cells hRo' hti arr' e ((cs.drop off).take (len * te.size) ++ new) (vs ++ news) m b3 b4 b6
        exact ⟨_, _, G', hrun, k1, k2, .ms _ _ 0 _ te.size _ 0 cap' _ k3 b1 (.inr ⟨rfl, _, k4, by rw [b2]; omega⟩)⟩
      obtain ⟨a', l2, c2, vs, hh2⟩ := rowOf_sound drew hrow (.ms ti g' off len te.size b o cap a u1 hc ha)
      rcases hh2 with ⟨heq, q1, q2, q3, q4⟩ | ⟨hr0, a, cx, heq⟩
      · cases heq
        rcases q4 with ⟨q5, _⟩ | ⟨b', o', q5, q6, q7⟩
        · cases q5
        · cases q5
          have hvl : vs.length = len * te.size := by rw [← q2.len, q1]
          exact fin vs q2 q3 hvl (run_firstCells_some w.drew ie.size len ⟨b', o', none⟩ len cap vs (by rw [hse, hvl]) (fun j v hv => by rw [add_lit]; exact q7 j v hv))
      · cases heq
        rw [hr0] at fin
        have := fin [] (VRs.nil G) (by simp) (by simp) (run_firstCells_some w.drew ie.size 0 a 0 cap [] (by simp) (by simp))
        simpa using this
  · cases h

end

end Go.St
