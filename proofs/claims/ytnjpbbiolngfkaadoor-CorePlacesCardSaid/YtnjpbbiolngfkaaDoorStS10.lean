/- What the operations do in memory: maps, copies, the rest. -/
import Derived.Test.YtnjpbbiolngfkaaDoorStS9
namespace Go.St
open Go.RowKit
set_option linter.unusedVariables false
set_option linter.unusedSimpArgs false

section
variable {P : Program} {A : AProg} {w0 : World} {G : Gh} {st st' : Sto} {w : World} {R : Type}

/-! ### Maps -/
theorem keyOk_cases {tk : TD} {k : AV} {d : TypeDesc} (h : keyOk tk k = true) (hk : kindB tk.k d = true) : (∃ ik n, d = .int ik ∧ k = .int ik n) ∨ (∃ s, d = .string ∧ k = .str s) ∨ (∃ b, d = .bool ∧ k = .bool b) := by
  unfold keyOk at h
  split at h
  · rename_i ik ik' n hik
    simp only [beq_iff_eq] at h
    subst h
    rw [hik] at hk
    exact .inl ⟨_, n, kk_int hk, rfl⟩
  · rename_i s hik
    rw [hik] at hk
    exact .inr (.inl ⟨s, kk_str hk, rfl⟩)
  · rename_i b hik
    rw [hik] at hk
    refine .inr (.inr ⟨b, ?_, rfl⟩)
    cases d <;> simp_all [kindB]
  · cases h

theorem eqCell_same {d : TypeDesc} {k k' : AV} {kv kv' : Value} {q : Bool} (h : eqCell k k' = some q) (hk : VR G k kv) (hk' : VR G k' kv') (hd : (∃ ik n, d = .int ik ∧ k = .int ik n) ∨ (∃ s, d = .string ∧ k = .str s) ∨ (∃ b, d = .bool ∧ k = .bool b)) :
    Instr.sameNow d kv kv' = some q ∧ (q = true → Instr.sameBits 10000 kv' kv = true ∧ Instr.sameBits 10000 kv kv' = true) := by
  rcases hd with ⟨ik, n, rfl, rfl⟩ | ⟨s, rfl, rfl⟩ | ⟨b, rfl, rfl⟩ <;> cases k' <;> simp [eqCell] at h
  · obtain ⟨rfl, rfl⟩ := h
    cases hk; cases hk'
    refine ⟨by simp only [Instr.sameNow, if_true]; rfl, fun hq => ?_⟩
    simp only [decide_eq_true_eq] at hq
    subst hq
    simp [Instr.sameBits]
  · subst h
    cases hk; cases hk'
    refine ⟨by simp only [Instr.sameNow, beq_toListBytes, toList_beq], fun hq => ?_⟩
    simp only [decide_eq_true_eq] at hq
    subst hq
    simp [Instr.sameBits, beq_toListBytes]
  · subst h
    cases hk; cases hk'
    refine ⟨by simp [Instr.sameNow], fun hq => ?_⟩
    simp only [beq_iff_eq] at hq
    subst hq
    simp [Instr.sameBits]

def EntR (G : Gh) (es : List (AV × AV)) (arr : List MapEntry) : Prop := arr.length = es.length ∧ ∀ (j : Nat) (x : AV × AV) (y : MapEntry), es[j]? = some x → arr[j]? = some y → VR G x.1 y.key ∧ VR G x.2 y.val

theorem keyNo_sound {d : TypeDesc} {k : AV} {kv : Value} (hk : VR G k kv) (hd : (∃ ik n, d = .int ik ∧ k = .int ik n) ∨ (∃ s, d = .string ∧ k = .str s) ∨ (∃ b, d = .bool ∧ k = .bool b)) :
    ∀ {es : List (AV × AV)} {arr : List MapEntry} {i : Nat} {r : Option (Nat × AV)}, keyNo k es i = some r → EntR G es arr →
      (r = none ∧ Instr.findNow d kv arr i = some none) ∨ ∃ j v e, r = some (i + j, v) ∧ es[j]? = some (((es[j]?).getD (.any, .any)).1, v) ∧ arr[j]? = some e ∧ VR G v e.val ∧ Instr.findNow d kv arr i = some (some (i + j, e.val)) ∧ Instr.sameBits 10000 e.key kv = true := by
  intro es
  induction es with
  | nil =>
    intro arr i r h he
    have : arr = [] := List.eq_nil_of_length_eq_zero (by simpa using he.1)
    subst this
    simp only [keyNo, Option.some.injEq] at h
    exact .inl ⟨h.symm, rfl⟩
  | cons x es ih =>
    intro arr i r h he
    cases arr with
    | nil => have := he.1; simp at this
    | cons y arr =>
      obtain ⟨k', v⟩ := x
      obtain ⟨h1, h2⟩ := he.2 0 _ _ rfl rfl
      simp only [keyNo] at h
      cases hc : eqCell k k' with
      | none => simp [hc] at h
      | some q =>
        simp only [hc, Option.bind_some] at h
        obtain ⟨hs, hb⟩ := eqCell_same hc hk h1 hd
        cases q with
        | true =>
          simp only [if_true, Option.some.injEq] at h
          subst h
          exact .inr ⟨0, v, y, rfl, rfl, rfl, h2, by simp [Instr.findNow, hs], (hb rfl).1⟩
        | false =>
          simp only [Bool.false_eq_true, if_false] at h
          have he' : EntR G es arr := ⟨by have := he.1; simpa using this, fun j x y hx hy => he.2 (j + 1) x y (by simpa using hx) (by simpa using hy)⟩
          rcases ih h he' with ⟨rfl, h3⟩ | ⟨j, v', e, rfl, h4, h5, h6, h7, h8⟩
          · exact .inl ⟨rfl, by simp [Instr.findNow, hs, h3]⟩
          · refine .inr ⟨j + 1, v', e, by congr 2; omega, by simpa using h4, by simpa using h5, h6, ?_, h8⟩
            simp only [Instr.findNow, hs, h7]
            congr 3
            omega

theorem r_checkKey {e : Bool} {t : TypeId} {d : TypeDesc} {k : AV} {kv : Value} (hd : P.underlying t = some d) (hk : VR G k kv) (h : (∃ ik n, d = .int ik ∧ k = .int ik n) ∨ (∃ s, d = .string ∧ k = .str s) ∨ (∃ b, d = .bool ∧ k = .bool b)) (D : Nat) (w : World) :
    (Instr.checkKey e (D + 1) t kv).run P w = .ok () w := by
  rcases h with ⟨ik, n, rfl, rfl⟩ | ⟨s, rfl, rfl⟩ | ⟨b, rfl, rfl⟩ <;> cases hk <;> simp [Instr.checkKey, run_underlying hd]

theorem r_findKey {t : TypeId} {d : TypeDesc} {kv : Value} {arr : List MapEntry} {r : Option (Nat × Value)} (hd : P.underlying t = some d) (h : Instr.findNow d kv arr 0 = some r) (w : World) : (Instr.findKey t kv arr).run P w = .ok r w := by
  simp [Instr.findKey, run_underlying hd, h]

theorem map_obj {own : Nat → Option Nat} (hR : RelO A.bld A.u8 w0 G own st w) {id : Nat} {es : List (AV × AV)} (hid : st[id]? = some (.map es)) {mv : Value} (hm : VR G (.mr id) mv) :
    ∃ b arr, mv = .map (some b) ∧ G.ρ id 0 = some (b, 0) ∧ own b = some id ∧ w.heap[b]? = some (.map arr arr.size) ∧ EntR G es arr.toList ∧ ∀ (j : Nat) (y : MapEntry), arr[j]? = some y → y.born = j := by
  obtain ⟨b, arr, h1, h2, h3, h4, h5⟩ := hR.obj id _ hid
  cases hm with
  | mr _ b' h6 =>
    rw [h1] at h6
    cases h6
    refine ⟨b, arr, rfl, h1, h2, h3, ⟨by simpa using h4, fun j x y hx hy => let ⟨a, b, _⟩ := h5 j x y hx (by simpa using hy); ⟨a, b⟩⟩, fun j y hy => ?_⟩
    have hj : j < es.length := by rw [← h4]; exact (Array.getElem?_eq_some_iff.1 hy).1
    exact (h5 j _ y (List.getElem?_eq_getElem hj) hy).2.2

theorem g_lookup (hT : TabOk P A) (hR : Rel A.bld A.u8 w0 G st w) {t : TypeId} {m k v : AV} {mv kv : Value} {ok : Bool} (h : lookupA A t m k ok st = some v) (hm : VR G m mv) (hk : VR G k kv) : Gives P A w0 G (Instr.lookup t mv kv ok) w v st := by
  unfold lookupA at h
  cases ht : assoc t A.tab with
  | none => simp [ht] at h
  | some td =>
  simp only [ht, Option.bind_some] at h
  obtain ⟨_, d, _, hd, _, _, hkd, _⟩ := (hT t td ht).ok
  split at h
  case h_2 => cases h
  rename_i kt et he
  rw [he] at hkd
  obtain rfl := kk_map hkd
  cases htk : assoc kt A.tab with
  | none => simp [htk] at h
  | some tk =>
  cases hte : assoc et A.tab with
  | none => simp [htk, hte] at h
  | some te =>
  simp only [htk, hte, Option.bind_some] at h
  obtain ⟨_, dk, _, hdk, _, _, hkk, _⟩ := (hT kt tk htk).ok
  obtain ⟨ie, de, hie, hde, hse, _, hke, z, hz, hzr, hag, hnag, hzl⟩ := (hT et te hte).ok
  split at h
  case isFalse => cases h
  rename_i hok
  have hcs := keyOk_cases hok hkk
  unfold lkM at h
  cases hmo : mapOf m st with
  | none => simp [hmo] at h
  | some es =>
  simp only [hmo, Option.bind_some] at h
  obtain ⟨own, hRo⟩ := hR
  have hload : ∃ arr : Array MapEntry, EntR G es arr.toList ∧ (Instr.lookup t mv kv ok).run P w = (do
      Instr.checkKey arr.isEmpty 10000 kt kv
      let (v, b) ← match ← Instr.findKey kt kv arr.toList with
        | some (_, v) => Pure.pure (v, true)
        | none => Pure.pure (← zeroValue et, false)
      Pure.pure (if ok then Value.tuple #[v, .bool b] else v) : Sem Value).run P w := by
    unfold mapOf at hmo
    split at hmo
    · cases hmo; cases hm; refine ⟨#[], ⟨rfl, by simp⟩, ?_⟩
      simp only [Instr.lookup, Sem.run_bind, run_underlying hd, Result.andThen_ok, Sem.run_pure]
      rfl
    · split at hmo
      · rename_i hid
        cases hmo
        obtain ⟨b, arr, rfl, h1, h2, h3, h4, _⟩ := map_obj hRo hid hm
        refine ⟨arr, h4, ?_⟩
        have hg : (getObj b : Sem Obj).run P w = .ok (.map arr arr.size) w := by simp [getObj, Sem.run, h3]
        simp only [Instr.lookup, Sem.run_bind, run_underlying hd, Result.andThen_ok, Sem.run_pure, hg]
        rfl
      · cases hmo
    · cases hmo
  obtain ⟨arr, hent, hrun⟩ := hload
  cases hkn : keyNo k es 0 with
  | none => simp [hkn] at h
  | some r =>
  simp only [hkn, Option.bind_some] at h
  have hck := r_checkKey (P := P) (e := arr.isEmpty) hdk hk hcs 9999 w
  rcases keyNo_sound hk hcs hkn hent with ⟨rfl, hf⟩ | ⟨j, v', e, rfl, h4, h5, h6, hf, _⟩
  · simp only at h
    cases hzp : pack te.isAgg te.zero with
    | none => simp [hzp] at h
    | some zv =>
      simp only [hzp, Option.bind_some, Option.some.injEq] at h
      obtain ⟨z1, z2, z3⟩ := zero_cells hzr hzl G
      have hzv : VR G zv z := by
        unfold pack at hzp
        split at hzp
        · rename_i ha
          cases hzp
          obtain ⟨cs, rfl⟩ := hag ha
          exact .agg _ _ (by rw [z1.len]; simp [Value.cells]) fun j a v ha hv => z1.at_ j a v ha (by simpa [Value.cells] using hv)
        · rename_i ha
          split at hzp
          · rename_i c hc
            cases hzp
            have h1 := hnag (by simpa using ha)
            rw [cells_one h1] at z1
            rw [hc] at z1
            exact z1.at_ 0 _ _ rfl rfl
          · cases hzp
      refine Gives.same ⟨own, hRo⟩ (v' := if ok then .tuple #[z, .bool false] else z) ?_ ?_
      · rw [hrun]
        simp [hck, r_findKey hdk hf, r_zero hie hz]
      · subst h
        cases ok
        · exact hzv
        · exact VRs.tup (vs := #[_, _]) (VRs.cons hzv (VRs.one (.bool _)))
  · simp only [Option.some.injEq] at h
    refine Gives.same ⟨own, hRo⟩ (v' := if ok then .tuple #[e.val, .bool true] else e.val) ?_ ?_
    · rw [hrun]
      simp [hck, r_findKey hdk hf]
    · subst h
      cases ok
      · exact h6
      · exact VRs.tup (vs := #[_, _]) (VRs.cons h6 (VRs.one (.bool _)))

theorem r_keeps {old new : Value} (h : Instr.sameBits 10000 old new = true) (w : World) : (Instr.keyThatStays old new).run P w = .ok new w := by
  simp [Instr.keyThatStays, h]

/-- An entry is told anew. -/
theorem EntR.set {es : List (AV × AV)} {arr : List MapEntry} (h : EntR G es arr) {j : Nat} {x : AV × AV} {e y : MapEntry} (he : arr[j]? = some e) (hk : VR G x.1 y.key) (hv : VR G x.2 y.val) : EntR G (es.set j x) (arr.set j y) := by
  have hj : j < arr.length := (List.getElem?_eq_some_iff.1 he).1
  refine ⟨by simp [h.1], fun n a b ha hb => ?_⟩
  by_cases hn : n = j
  · subst hn
    rw [List.getElem?_set_self (by rw [← h.1]; exact hj)] at ha
    rw [List.getElem?_set_self hj] at hb
    cases ha; cases hb
    exact ⟨hk, hv⟩
  · rw [List.getElem?_set_ne (Ne.symm hn)] at ha hb
    exact h.2 n a b ha hb
theorem EntR.push {es : List (AV × AV)} {arr : List MapEntry} (h : EntR G es arr) {x : AV × AV} {y : MapEntry} (hk : VR G x.1 y.key) (hv : VR G x.2 y.val) : EntR G (es ++ [x]) (arr ++ [y]) := by
  refine ⟨by simp [h.1], fun n a b ha hb => ?_⟩
  by_cases hn : n < es.length
  · rw [List.getElem?_append_left hn] at ha
    rw [List.getElem?_append_left (by rw [h.1]; exact hn)] at hb
    exact h.2 n a b ha hb
  · rw [List.getElem?_append_right (by omega)] at ha
    rw [List.getElem?_append_right (by rw [h.1]; omega), h.1] at hb
    have : n - es.length = 0 := by
      have := (List.getElem?_eq_some_iff.1 ha).1
      simp at this
      omega
    rw [this] at ha hb
    cases ha; cases hb
    exact ⟨hk, hv⟩

theorem map_ob {own : Nat → Option Nat} {i b : Nat} {es : List (AV × AV)} {arr : Array MapEntry} (h1 : G.ρ i 0 = some (b, 0)) (h2 : own b = some i) (he : EntR G es arr.toList) (hb : ∀ (j : Nat) (y : MapEntry), arr[j]? = some y → y.born = j)
    {n : Nat} (hn : n = arr.size) {w : World} (hw : w.heap[b]? = some (.map arr n)) : ObR A.bld A.u8 G own w i (.map es) := by
  subst hn
  exact ⟨b, arr, h1, h2, hw, by simpa using he.1, fun j x y hx hy => ⟨(he.2 j x y hx (by simpa using hy)).1, (he.2 j x y hx (by simpa using hy)).2, hb j y hy⟩⟩

theorem modify_set {α : Type} (arr : Array α) (j : Nat) (f : α → α) {e : α} (h : arr[j]? = some e) : (arr.modify j f).toList = arr.toList.set j (f e) := by
  apply List.ext_getElem?
  intro k
  have hj : j < arr.size := (Array.getElem?_eq_some_iff.1 h).1
  simp only [Array.getElem?_toList, Array.getElem?_modify]
  by_cases hk : j = k
  · subst hk
    rw [if_pos rfl, h, List.getElem?_set_self (by simpa using hj)]
    rfl
  · rw [if_neg hk, List.getElem?_set_ne hk]
    simp

theorem born_modify {arr : Array MapEntry} (hb : ∀ (j : Nat) (y : MapEntry), arr[j]? = some y → y.born = j) (i : Nat) (f : MapEntry → MapEntry) (hf : ∀ e, (f e).born = e.born) : ∀ (j : Nat) (y : MapEntry), (arr.modify i f)[j]? = some y → y.born = j := by
  intro j y hy
  rw [Array.getElem?_modify] at hy
  split at hy
  · cases h : arr[j]? with
    | none => simp [h] at hy
    | some e => simp only [h, Option.map_some, Option.some.injEq] at hy; subst hy; rw [hf]; exact hb j e h
  · exact hb j y hy
theorem born_push {arr : Array MapEntry} (hb : ∀ (j : Nat) (y : MapEntry), arr[j]? = some y → y.born = j) (e : MapEntry) (he : e.born = arr.size) : ∀ (j : Nat) (y : MapEntry), (arr.push e)[j]? = some y → y.born = j := by
  intro j y hy
  rw [Array.getElem?_push] at hy
  split at hy
  · rename_i hj; cases hy; rw [he, hj]
  · exact hb j y hy

theorem r_setMap {b : Nat} {arr arr' : Array MapEntry} {n n' : Nat} (h : w.heap[b]? = some (.map arr n)) : (setObj b (.map arr' n') : Sem Unit).run P w = .ok () { w with heap := w.heap.setIfInBounds b (.map arr' n') } := by
  simp [setObj, Sem.run, h]

theorem g_setM (hR : Rel A.bld A.u8 w0 G st w) {t kt et : TypeId} {dk : TypeDesc} (hd : P.underlying t = some (.map kt et)) (hdk : P.underlying kt = some dk) {m k v : AV} {mv kv vv : Value} (h : setM m k v st = some st') (hm : VR G m mv) (hk : VR G k kv) (hv : VR G v vv)
    (hcs : (∃ ik n, dk = .int ik ∧ k = .int ik n) ∨ (∃ s, dk = .string ∧ k = .str s) ∨ (∃ b, dk = .bool ∧ k = .bool b)) : GivesU P A w0 G (Instr.mapUpdate t mv kv vv) w st' := by
  unfold setM at h
  split at h
  case isFalse => cases h
  split at h
  case h_2 => cases h
  rename_i id
  split at h
  case h_2 => cases h
  rename_i es hid
  obtain ⟨own, hRo⟩ := hR
  obtain ⟨b, arr, rfl, h1, h2, h3, hent, hborn⟩ := map_obj hRo hid hm
  have hg : (getObj b : Sem Obj).run P w = .ok (.map arr arr.size) w := by simp [getObj, Sem.run, h3]
  have hlt : b < w.heap.size := (Array.getElem?_eq_some_iff.1 h3).1
  cases hkn : keyNo k es 0 with
  | none => simp [hkn] at h
  | some r =>
  simp only [hkn, Option.bind_some] at h
  have hck := r_checkKey (P := P) (e := false) hdk hk hcs 9999 w
  rcases keyNo_sound hk hcs hkn hent with ⟨rfl, hf⟩ | ⟨j, v', e, rfl, h4, h5, h6, hf, hsb⟩
  · simp only [Option.some.injEq] at h
    subst h
    refine ⟨{ w with heap := w.heap.setIfInBounds b (.map (arr.push { key := kv, val := vv, born := arr.size }) (arr.size + 1)) }, G, ?_, Gh.le.refl G, own, rel_setobj hRo hid (by simp [Ob.ver]) h2 h3 (by simp) fun w' hw' => ?_⟩
    · simp [Instr.mapUpdate, run_underlying hd, hg, hck, r_findKey hdk hf, r_setMap h3]
    · exact map_ob h1 h2 (by simpa using hent.push (x := (k, v)) (y := { key := kv, val := vv, born := arr.size }) hk hv) (born_push hborn _ rfl) (by simp) hw'
  · simp only [Option.some.injEq] at h
    subst h
    simp only [Nat.zero_add] at hf ⊢
    have he : arr[j]? = some e := by simpa using h5
    refine ⟨{ w with heap := w.heap.setIfInBounds b (.map (arr.modify j fun e => { e with key := kv, val := vv }) arr.size) }, G, ?_, Gh.le.refl G, own, rel_setobj hRo hid (by simp [Ob.ver]) h2 h3 (by simp) fun w' hw' => ?_⟩
    · simp [Instr.mapUpdate, run_underlying hd, hg, hck, r_findKey hdk hf, r_setMap h3, he, r_keeps hsb]
    · refine map_ob h1 h2 ?_ (born_modify hborn j (fun e => { e with key := kv, val := vv }) fun _ => rfl) (by simp) hw'
      rw [modify_set _ _ _ he]
      exact hent.set h5 hk hv

theorem g_mapSet (hT : TabOk P A) (hR : Rel A.bld A.u8 w0 G st w) {t : TypeId} {m k v : AV} {mv kv vv : Value} (h : mapSet A t m k v st = some st') (hm : VR G m mv) (hk : VR G k kv) (hv : VR G v vv) : GivesU P A w0 G (Instr.mapUpdate t mv kv vv) w st' := by
  unfold mapSet at h
  cases ht : assoc t A.tab with
  | none => simp [ht] at h
  | some td =>
  simp only [ht, Option.bind_some] at h
  obtain ⟨_, d, _, hd, _, _, hkd, _⟩ := (hT t td ht).ok
  split at h
  case h_2 => cases h
  rename_i kt et he
  rw [he] at hkd
  obtain rfl := kk_map hkd
  cases htk : assoc kt A.tab with
  | none => simp [htk] at h
  | some tk =>
  simp only [htk, Option.bind_some] at h
  obtain ⟨_, dk, _, hdk, _, _, hkk, _⟩ := (hT kt tk htk).ok
  split at h
  case isFalse => cases h
  rename_i hok
  exact g_setM hR hd hdk h hm hk hv (keyOk_cases hok hkk)

theorem g_makeMap (hR : Rel A.bld A.u8 w0 G st w) (t : TypeId) : Gives P A w0 G (Instr.makeMap t none) w (.mr st.length) (st ++ [.map []]) := by
  obtain ⟨G', k1, k2, k3⟩ := rel_newobj hR (.map []) (.map #[] 0) rfl (fun G' own' w' h1 h2 h3 h4 _ => map_ob h2 h3 (arr := #[]) ⟨rfl, by simp⟩ (by simp) rfl h4)
  exact ⟨.map (some w.heap.size), _, G', by simp [Instr.makeMap, newObj, Sem.run], k1, k2, .mr _ _ k3⟩

/-! ### Interfaces, tuples -/
theorem zero_VR {te : TD} {z : Value} {zv : AV} (hzp : pack te.isAgg te.zero = some zv) (hzr : zrsB te.zero z.cells.toList = true) (hag : te.isAgg = true → ∃ cs, z = Value.agg cs) (hnag : te.isAgg = false → z.oneCell' = true) (hzl : te.zero.length = te.size) (G : Gh) : VR G zv z := by
  obtain ⟨z1, z2, z3⟩ := zero_cells hzr hzl G
  unfold pack at hzp
  split at hzp
  · rename_i ha
    cases hzp
    obtain ⟨cs, rfl⟩ := hag ha
    exact .agg _ _ (by rw [z1.len]; simp [Value.cells]) fun j a v ha hv => z1.at_ j a v ha (by simpa [Value.cells] using hv)
  · rename_i ha
    split at hzp
    · rename_i c hc
      cases hzp
      have h1 := hnag (by simpa using ha)
      rw [cells_one h1] at z1
      rw [hc] at z1
      exact z1.at_ 0 _ _ rfl rfl
    · cases hzp

theorem g_assert (hT : TabOk P A) (hR : Rel A.bld A.u8 w0 G st w) {x v : AV} {xv : Value} {xt t : TypeId} {ok : Bool} (h : assertA A x t ok = some v) (hx : VR G x xv) : Gives P A w0 G (Instr.typeAssert xv xt t ok) w v st := by
  unfold assertA at h
  cases ht : assoc t A.tab with
  | none => simp [ht] at h
  | some td =>
  simp only [ht, Option.bind_some] at h
  obtain ⟨ie, d, hie, hd, _, _, hkd, z, hz, hzr, hag, hnag, hzl⟩ := (hT t td ht).ok
  have hni : ∀ ms, d ≠ .interface ms := by
    rintro ms rfl
    split at h
    · cases h
    · rename_i hk
      cases htk : td.k <;> simp [htk, kindB] at hkd
      exact hk _ htk
  have h' : asrt (pack td.isAgg td.zero) t ok x = some v := by
    split at h
    · cases h
    · exact h
  unfold asrt at h'
  split at h'
  · split at h'
    · rename_i hok
      subst hok
      cases hzp : pack td.isAgg td.zero with
      | none => simp [hzp] at h'
      | some zv =>
        simp only [hzp, Option.bind_some, Option.some.injEq] at h'
        subst h'
        cases hx
        refine Gives.same hR (v' := .tuple #[z, .bool false]) ?_ (VRs.tup (vs := #[_, _]) (VRs.cons (zero_VR hzp hzr hag hnag hzl G) (VRs.one (.bool _))))
        simp only [Instr.typeAssert, Sem.run_bind, run_underlying hd, Result.andThen_ok]
        cases d <;> first | (exact absurd rfl (hni _)) | simp [r_zero hie hz]
    · cases h'
  · rename_i t' v'
    split at h'
    · rename_i htt
      subst htt
      simp only [Option.some.injEq] at h'
      cases hx with
      | ifc _ _ vv hvv =>
      refine Gives.same hR (v' := if ok then .tuple #[vv, .bool true] else vv) ?_ ?_
      · simp only [Instr.typeAssert, Sem.run_bind, run_underlying hd, Result.andThen_ok]
        cases d <;> first | (exact absurd rfl (hni _)) | simp
      · subst h'
        cases ok
        · exact hvv
        · exact VRs.tup (vs := #[_, _]) (VRs.cons hvv (VRs.one (.bool _)))
    · rename_i htt
      split at h'
      · rename_i hok
        subst hok
        cases hzp : pack td.isAgg td.zero with
        | none => simp [hzp] at h'
        | some zv =>
          simp only [hzp, Option.bind_some, Option.some.injEq] at h'
          subst h'
          cases hx with
          | ifc _ _ vv hvv =>
          refine Gives.same hR (v' := .tuple #[z, .bool false]) ?_ (VRs.tup (vs := #[_, _]) (VRs.cons (zero_VR hzp hzr hag hnag hzl G) (VRs.one (.bool _))))
          simp only [Instr.typeAssert, Sem.run_bind, run_underlying hd, Result.andThen_ok]
          cases d <;> first | (exact absurd rfl (hni _)) | simp [r_zero hie hz, htt]
      · cases h'
  · cases h'

theorem g_ext (hR : Rel A.bld A.u8 w0 G st w) {x v : AV} {xv : Value} {i : Nat} (h : ext x i = some v) (hx : VR G x xv) : Gives P A w0 G (Instr.extract xv i) w v st := by
  unfold ext at h
  split at h
  · cases hx with
    | tup as xs hl hh =>
      have hi := (List.getElem?_eq_some_iff.1 h).1
      have hi' : i < xs.size := by omega
      exact Gives.same hR (v' := xs[i]) (by simp [Instr.extract, hi']) (hh i v _ h (by simp [hi']))
  · cases h

end

end Go.St
