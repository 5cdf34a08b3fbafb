/- Forests held against each other. -/
import Derived.Test.YtjcpcglhjeoifaaDoorTC
namespace Go.Proofs.YtjcpcglhjeoifaaDoor
open Go.St Go.Lib
set_option linter.unusedVariables false
set_option linter.unusedSimpArgs false

def sameF : Fo → Fo → Bool
  | .nil, .nil => true
  | .cons t x as' k r, .cons t' x' bs k' r' => decide (t = t') && (decide (x = x') && (decide (as' = bs) && (sameF k k' && sameF r r')))
  | _, _ => false

theorem sameF_len : ∀ {a b : Fo}, sameF a b = true → a.len = b.len := by
  intro a
  induction a with
  | nil =>
    intro b h
    cases b with
    | nil => rfl
    | cons => simp [sameF] at h
  | cons t x l k r ihk ihr =>
    intro b h
    cases b with
    | nil => simp [sameF] at h
    | cons t' x' l' k' r' =>
      simp only [sameF, Bool.and_eq_true] at h
      simp only [Fo.len, ihr h.2.2.2.2]
theorem sameF_refl : ∀ a : Fo, sameF a a = true := by
  intro a
  induction a with
  | nil => rfl
  | cons t x l k r ihk ihr => simp [sameF, ihk, ihr]
theorem sameF_symm : ∀ a b : Fo, sameF a b = sameF b a := by
  intro a
  induction a with
  | nil =>
    intro b
    cases b <;> rfl
  | cons t x l k r ihk ihr =>
    intro b
    cases b with
    | nil => rfl
    | cons t' x' l' k' r' =>
      simp only [sameF, ihk k', ihr r', eq_comm]

theorem eq_pair (x y : ByteArray × ByteArray) : eqV .struct [.s, .s] false (.agg [.str x.1, .str x.2]) (.agg [.str y.1, .str y.2]) = some (decide (x = y)) := by
  obtain ⟨a, b⟩ := x
  obtain ⟨c, d⟩ := y
  by_cases h1 : a = c
  · by_cases h2 : b = d
    · simp [eqV, eqCells, eqF, h1, h2]
    · simp [eqV, eqCells, eqF, h1, h2]
  · simp [eqV, eqCells, eqF, h1]

/-! ### Attributes -/
theorem equal_loop {as' bs : List (ByteArray × ByteArray)} {v w : AV} (hv : AttV as' v) (hw : AttV bs w) (hl : as'.length = bs.length) (hs : asz as' ≤ 1050000) (st : Sto) :
    ∀ (sa sb pa pb : List (ByteArray × ByteArray)), as' = pa ++ sa → bs = pb ++ sb → pa.length = pb.length → slices_Equal_api_Attr_api_Attr.p110100 v w ((as'.length : Nat) : Int) ((pa.length : Nat) : Int) st = some ⟨.ret (.bool (decide (sa = sb))), none, st⟩ := by
  intro sa
  induction sa with
  | nil =>
    intro sb pa pb ha hb hp
    rw [List.append_nil] at ha
    subst ha
    have : sb = [] := List.eq_nil_of_length_eq_zero (by rw [hb, List.length_append] at hl; omega)
    subst this
    rw [slices_Equal_api_Attr_api_Attr.p110100_eq]
    simp only [Int.lt_irrefl, decide_false, cond_false, decide_true]
  | cons x r ih =>
    intro sb pa pb ha hb hp
    cases sb with
    | nil =>
      subst ha; subst hb
      simp at hl
      omega
    | cons y s =>
      subst ha; subst hb
      have hlen : (pa ++ x :: r).length ≤ 525000 := by have := asz_len (pa ++ x :: r); omega
      have hlt : (((pa.length : Nat) : Int) < (((pa ++ x :: r).length : Nat) : Int)) := by simp; omega
      have hwr : IntKind.wrap .i64 (((pa.length : Nat) : Int) + 1) = (((pa ++ [x]).length : Nat) : Int) := by
        rw [w64 (pa.length + 1) (by omega) (by simp at hlen ⊢; omega)]
        simp
      have nxt := ih s (pa ++ [x]) (pb ++ [y]) (by simp) (by simp) (by simp [hp])
      have hib : ia 2 w (.int .i64 ((pa.length : Nat) : Int)) = some (.ip [.str y.1, .str y.2]) := attr_at hw (by rw [hp])
      rw [slices_Equal_api_Attr_api_Attr.p110100_eq]
      simp only [hlt, decide_true, cond_true, attr_at hv rfl, hib, l2, Option.bind_some, eq_pair, hwr, nxt]
      by_cases hxy : x = y
      · simp [hxy]
      · simp [hxy]

theorem equal_spec {as' bs : List (ByteArray × ByteArray)} {v w : AV} (hv : AttV as' v) (hw : AttV bs w) (hs : asz as' ≤ 1050000) (st : Sto) : CallR ap 35 [v, w] st = some (.ret (.bool (decide (as' = bs))), st) := by
  rw [slices_Equal_api_Attr_api_Attr.call]
  refine ret_keep ?_ rfl rfl (Keeps.refl _ _)
  rw [slices_Equal_api_Attr_api_Attr.b_eq]
  by_cases hl : as'.length = bs.length
  · have := equal_loop hv hw hl hs st as' bs [] [] rfl rfl rfl
    simp only [List.length_nil, Int.natCast_zero] at this
    simp only [hv.len, hw.len, Option.bind_some, hl, decide_true, Bool.not_true, cond_false]
    rw [hl] at this
    exact this
  · have hl' : ¬ (((as'.length : Nat) : Int) = ((bs.length : Nat) : Int)) := by omega
    have hne : as' ≠ bs := fun h => hl (by rw [h])
    simp only [hv.len, hw.len, Option.bind_some, hl', decide_false, Bool.not_false, cond_true, hne]

/-! ### The document's -/
theorem ref_attrs {as' bs : List (ByteArray × ByteArray)} {t0 t1 v w : AV} {i : Int} {tg tx ta tb : AV} (st : Sto) (ka kb : AV)
    (h0 : ia 4 t0 (.int .i64 i) = some (.ip [tg, tx, v, ka])) (h1 : ia 4 t1 (.int .i64 i) = some (.ip [ta, tb, w, kb])) (hv : AttV as' v) (hw : AttV bs w) (hl : as'.length = bs.length) (hs : asz as' ≤ 1050000) :
    ∀ (sa sb pa pb : List (ByteArray × ByteArray)), as' = pa ++ sa → bs = pb ++ sb → pa.length = pb.length →
      stencilref7_Same.p11010010010100 t0 t1 i ((pa.length : Nat) : Int) st = bif decide (sa = sb) then stencilref7_Same.p11010010010100 t0 t1 i ((as'.length : Nat) : Int) st else some ⟨.ret (.bool false), none, st⟩ := by
  intro sa
  induction sa with
  | nil =>
    intro sb pa pb ha hb hp
    rw [List.append_nil] at ha
    subst ha
    have : sb = [] := List.eq_nil_of_length_eq_zero (by rw [hb, List.length_append] at hl; omega)
    subst this
    simp
  | cons x r ih =>
    intro sb pa pb ha hb hp
    cases sb with
    | nil =>
      subst ha; subst hb
      simp at hl
      omega
    | cons y s =>
      subst ha; subst hb
      have hlen : (pa ++ x :: r).length ≤ 525000 := by have := asz_len (pa ++ x :: r); omega
      have hlt : (((pa.length : Nat) : Int) < (((pa ++ x :: r).length : Nat) : Int)) := by simp; omega
      have hwr : IntKind.wrap .i64 (((pa.length : Nat) : Int) + 1) = (((pa ++ [x]).length : Nat) : Int) := by
        rw [w64 (pa.length + 1) (by omega) (by simp at hlen ⊢; omega)]
        simp
      have nxt := ih s (pa ++ [x]) (pb ++ [y]) (by simp) (by simp) (by simp [hp])
      have hib : ia 2 w (.int .i64 ((pa.length : Nat) : Int)) = some (.ip [.str y.1, .str y.2]) := attr_at hw (by rw [hp])
      rw [stencilref7_Same.p11010010010100_eq]
      simp only [h0, h1, f2, l1, Option.bind_some, hv.len, hlt, decide_true, cond_true, attr_at hv rfl, hib, l2, eq_pair, hwr, nxt]
      by_cases hxy : x = y
      · simp [hxy]
      · simp [hxy]

def RefSameOk (a : Fo) : Prop := ∀ (b : Fo) (ra rb : List AV) (n i : Nat) (ta tb : Tok) (st : Sto), Row a (ra.drop (i * 4)) → Row b (rb.drop (i * 4)) → n = i + a.len → n = i + b.len → a.sz ≤ 1050000 → n ≤ 1050000 →
  stencilref7_Same.p110100 (.is ra n ta) (.is rb n tb) ((i : Nat) : Int) st = some ⟨.ret (.bool (sameF a b)), none, st⟩

theorem refSame_of {a b : Fo} (H : RefSameOk a) {v w : AV} (hv : FoV a v) (hw : FoV b w) (hs : a.sz ≤ 1050000) (st : Sto) : CallR ap 21 [v, w] st = some (.ret (.bool (sameF a b)), st) := by
  rw [stencilref7_Same.call]
  refine ret_keep ?_ rfl rfl (Keeps.refl _ _)
  rw [stencilref7_Same.b_eq]
  by_cases hl : a.len = b.len
  · have hl' : (((a.len : Nat) : Int) = ((b.len : Nat) : Int)) := by omega
    simp only [hv.len, hw.len, Option.bind_some, hl', decide_true, Bool.not_true, cond_false]
    by_cases h0 : a.len = 0
    · obtain rfl := len_nil h0
      obtain rfl := len_nil (hl.symm.trans h0)
      rw [stencilref7_Same.p110100_eq, hv.len]
      simp [Fo.len, sameF]
    · rcases hv with ⟨h, _⟩ | ⟨ra, ta, rfl, hra⟩
      · exact absurd h h0
      · rcases hw with ⟨h, _⟩ | ⟨rb, tb, rfl, hrb⟩
        · omega
        · have hls := len_sz a
          have := H b ra rb a.len 0 ta tb st (by simpa using hra) (by simpa using hrb) (by omega) (by omega) hs (by omega)
          rw [hl] at this ⊢
          simpa using this
  · have hl' : ¬ (((a.len : Nat) : Int) = ((b.len : Nat) : Int)) := by omega
    have hne : sameF a b = false := by
      cases h : sameF a b with
      | false => rfl
      | true => exact absurd (sameF_len h) hl
    simp only [hv.len, hw.len, Option.bind_some, hl', decide_false, Bool.not_false, cond_true, hne]

theorem refSame_all (a : Fo) : RefSameOk a := by
  induction a with
  | nil =>
    intro b ra rb n i ta tb st hra hrb hn hn' hs hb
    simp only [Fo.len] at hn
    obtain rfl := len_nil (ts := b) (by omega)
    have hlt : ¬ (((i : Nat) : Int) < ((n : Nat) : Int)) := by omega
    rw [stencilref7_Same.p110100_eq]
    simp only [lenL, Option.bind_some, hlt, decide_false, cond_false, sameF]
  | cons t x l k r ihk ihr =>
    intro b ra rb n i ta tb st hra hrb hn hn' hs hb
    cases b with
    | nil => simp only [Fo.len] at hn hn'; omega
    | cons t' x' l' k' r' =>
      simp only [Fo.len] at hn hn'
      simp only [Fo.sz] at hs
      obtain ⟨va, vk, ha, hk, hra', _, hia⟩ := row_at hra
      obtain ⟨wa, wk', hb', hk', hrb', _, hib⟩ := row_at hrb
      have hia := hia n ta (by omega)
      have hib := hib n tb (by omega)
      have wi : IntKind.wrap .i64 ((i : Int) + 1) = ((i + 1 : Nat) : Int) := w64 _ (by omega) (by omega)
      have hlt : (((i : Nat) : Int) < ((n : Nat) : Int)) := by omega
      have hl1 : lenL (.is ra n ta) = some n := rfl
      rw [stencilref7_Same.p110100_eq]
      simp only [hl1, Option.bind_some, hlt, decide_true, cond_true, hia, hib, f0, f1, f2, l1, asS, stencilref7_Same.p11010010001_eq, ha.len, hb'.len]
      by_cases h1 : t = t'
      · by_cases h2 : x = x'
        · by_cases h3 : l.length = l'.length
          · have h3' : (((l.length : Nat) : Int) = ((l'.length : Nat) : Int)) := by omega
            have hat := ref_attrs st vk wk' hia hib ha hb' h3 (by omega) l l' [] [] rfl rfl rfl
            simp only [List.length_nil, Int.natCast_zero] at hat
            simp only [h1, h2, h3', decide_true, Bool.not_true, cond_false, hat]
            by_cases h4 : l = l'
            · have hla := ha.len
              rw [stencilref7_Same.p11010010010100_eq]
              simp only [h4, decide_true, cond_true, hia, hib, f2, f3, l1, Option.bind_some, hb'.len, hla, Int.lt_irrefl, decide_false, cond_false, refSame_of ihk hk hk' (by omega), Out.on, if_true, asB, wi, sameF, Bool.true_and]
              cases hsk : sameF k k' with
              | false => simp
              | true =>
                simp only [Bool.not_true, cond_false, Bool.true_and]
                exact ihr r' ra rb n (i + 1) ta tb st hra' hrb' (by omega) (by omega) (by omega) hb
            · simp [h4, sameF]
          · have h3' : ¬ (((l.length : Nat) : Int) = ((l'.length : Nat) : Int)) := by omega
            have h4 : ¬ l = l' := fun h => h3 (by rw [h])
            simp [h1, h2, h3', h4, sameF]
        · simp [h1, h2, sameF]
      · simp [h1, sameF]

theorem refSame_spec {a b : Fo} {v w : AV} (hv : FoV a v) (hw : FoV b w) (hs : a.sz ≤ 1050000) (st : Sto) : CallR ap 21 [v, w] st = some (.ret (.bool (sameF a b)), st) := refSame_of (refSame_all a) hv hw hs st

/-! ### The program's: by a pile -/
def mu : List (Fo × Fo) → Nat
  | [] => 0
  | p :: r => p.1.sz + 1 + mu r
theorem mu_app (S T : List (Fo × Fo)) : mu (S ++ T) = mu S + mu T := by
  induction S with
  | nil => simp [mu]
  | cons p r ih => simp only [List.cons_append, mu, ih]; omega
theorem mu_len (S : List (Fo × Fo)) : S.length ≤ mu S := by
  induction S with
  | nil => simp [mu]
  | cons p r ih => simp only [List.length_cons, mu]; omega

def PC : List (Fo × Fo) → List AV → Prop
  | [], cs => cs = []
  | p :: r, cs => ∃ v w rest, cs = v :: w :: rest ∧ FoV p.1 v ∧ FoV p.2 w ∧ PC r rest

theorem PC.len : ∀ {S : List (Fo × Fo)} {cs : List AV}, PC S cs → cs.length = S.length * 2 := by
  intro S
  induction S with
  | nil => intro cs h; cases h; rfl
  | cons p r ih =>
    intro cs h
    obtain ⟨v, w, rest, rfl, _, _, h⟩ := h
    simp only [List.length_cons, ih h]
    omega
theorem PC.app : ∀ {S T : List (Fo × Fo)} {cs ds : List AV}, PC S cs → PC T ds → PC (S ++ T) (cs ++ ds) := by
  intro S
  induction S with
  | nil => intro T cs ds h k; cases h; exact k
  | cons p r ih =>
    intro T cs ds h k
    obtain ⟨v, w, rest, rfl, h1, h2, h⟩ := h
    exact ⟨v, w, rest ++ ds, rfl, h1, h2, ih h k⟩
theorem PC.split : ∀ {S T : List (Fo × Fo)} {cs : List AV}, PC (S ++ T) cs → ∃ c d, cs = c ++ d ∧ PC S c ∧ PC T d := by
  intro S
  induction S with
  | nil => intro T cs h; exact ⟨[], cs, rfl, rfl, h⟩
  | cons p r ih =>
    intro T cs h
    obtain ⟨v, w, rest, rfl, h1, h2, h⟩ := h
    obtain ⟨c, d, rfl, h3, h4⟩ := ih h
    exact ⟨v :: w :: c, d, rfl, ⟨v, w, c, rfl, h1, h2, h3⟩, h4⟩

/-- The pile in the store. -/
def Pile (st : Sto) (id g : Nat) (S : List (Fo × Fo)) : Prop := ∃ cs rest, st[id]? = some (.cells g (cs ++ rest) 0) ∧ PC S cs

def allSame (S : List (Fo × Fo)) : Bool := S.all fun p => sameF p.1 p.2

def PileOk (m : Nat) : Prop := ∀ (S : List (Fo × Fo)) (st : Sto) (id g nn : Nat), mu S < m → mu S ≤ 2097152 → Pile st id g S → nn ≤ id → (∀ p ∈ S, p.1.sz ≤ 1050000) →
  ∃ st', forest_Same.p11000 (.ms id g 0 S.length 2) st = some ⟨.ret (.bool (allSame S)), none, st'⟩ ∧ Keeps nn st st'

theorem fo_cell {ts : Fo} {v : AV} (h : FoV ts v) : v.isCell = true ∧ v.cells = [v] := by
  rcases h with ⟨_, rfl⟩ | ⟨_, _, rfl, _⟩ <;> exact ⟨rfl, rfl⟩

theorem pair_lit {v w : AV} (hv : v.isCell = true) (hw : w.isCell = true) (cv : v.cells = [v]) (cw : w.cells = [w]) (st : Sto) :
    (aggA (fillA (fun i => ([(0, 1), (1, 1)] : List (Nat × Nat))[i]?) [.nils, .nils] [(0, v), (1, w)])) = some (.agg [v, w]) ∧
    (litS false 1 2 (fillA (fun i => some (i * 2, 2)) [.nils, .nils] [(0, .agg [v, w])]) st) = some (.is [v, w] 1 .full, st) ∧
    (litS true 1 2 (fillA (fun i => some (i * 2, 2)) [.nils, .nils] [(0, .agg [v, w])]) st) = some (.ms st.length 0 0 1 2, st ++ [.cells 0 [v, w] 0]) ∧
    tailOf false 2 st (.is [v, w] 1 .full) = some ([v, w], 1) := by
  have h1 : (AV.cells (.agg [v, w])) = [v, w] := rfl
  refine ⟨?_, ?_, ?_, ?_⟩
  · simp [fillA, aggA, cv, cw, hv, hw, splice]
  · simp [fillA, litS, h1, hv, hw, splice]
  · simp [fillA, litS, h1, hv, hw, splice]
  · simp [tailOf, rowOf]

/-- Behind the pair that was taken: node by node. -/
def InnerOk (a : Fo) : Prop := ∀ (m : Nat), PileOk m → ∀ (b : Fo) (S : List (Fo × Fo)) (ra rb : List AV) (n i : Nat) (ta tb : Tok) (st : Sto) (id g p nn : Nat),
  Row a (ra.drop (i * 4)) → Row b (rb.drop (i * 4)) → n = i + a.len → n = i + b.len → mu S + a.sz < m → mu S + a.sz ≤ 2097152 → a.sz ≤ 1050000 → n ≤ 1050000 → Pile st id g S → nn ≤ id → (∀ q ∈ S, q.1.sz ≤ 1050000) →
  id ≠ p → st[p]? = some (.cells 0 [.is ra n ta, .is rb n tb] 0) →
  ∃ st', forest_Same.p1100010111100 (.ms id g 0 S.length 2) p ((n : Nat) : Int) ((i : Nat) : Int) st = some ⟨.ret (.bool (allSame S && sameF a b)), none, st'⟩ ∧ Keeps nn st st'

open Classical in
theorem inner_all (a : Fo) : InnerOk a := by
  induction a with
  | nil =>
    intro m hm b S ra rb n i ta tb st id g p nn hra hrb hn hn' hmu hmu2 hs hb hP hnn hS hid hp
    simp only [Fo.len] at hn
    obtain rfl := len_nil (ts := b) (by omega)
    have hlt : ¬ (((i : Nat) : Int) < ((n : Nat) : Int)) := by omega
    simp only [Fo.sz, Nat.add_zero] at hmu hmu2
    obtain ⟨st', h1, h2⟩ := hm S st id g nn hmu hmu2 hP hnn hS
    refine ⟨st', ?_, h2⟩
    rw [forest_Same.p1100010111100_eq]
    simp only [hlt, decide_false, cond_false, sameF, Bool.and_true]
    exact h1
  | cons t x l k r ihk ihr =>
    intro m hm b S ra rb n i ta tb st id g p nn hra hrb hn hn' hmu hmu2 hs hb hP hnn hS hid hp
    cases b with
    | nil => simp only [Fo.len] at hn hn'; omega
    | cons t' x' l' k' r' =>
      simp only [Fo.len] at hn hn'
      simp only [Fo.sz] at hs hmu hmu2
      obtain ⟨va, vk, ha, hk, hra', _, hia⟩ := row_at hra
      obtain ⟨wa, wk', hb', hk', hrb', _, hib⟩ := row_at hrb
      have hia := hia n ta (by omega)
      have hib := hib n tb (by omega)
      have wi : IntKind.wrap .i64 ((i : Int) + 1) = ((i + 1 : Nat) : Int) := w64 _ (by omega) (by omega)
      have hlt : (((i : Nat) : Int) < ((n : Nat) : Int)) := by omega
      have e0 : ld false 1 st (.mp p 0 0) = some (.is ra n ta) := m_get hp rfl
      have e1 : ld false 1 st (.mp p 0 1) = some (.is rb n tb) := m_get hp rfl
      have hfalse : sameF (.cons t x l k r) (.cons t' x' l' k' r') = false → forest_Same.p110001011110011001101 (.ms id g 0 S.length 2) p (.ip [.str t, .str x, va, vk]) (.ip [.str t', .str x', wa, wk']) ((n : Nat) : Int) ((i : Nat) : Int) true st = some ⟨.ret (.bool (allSame S && sameF (.cons t x l k r) (.cons t' x' l' k' r'))), none, st⟩ := by
        intro h
        rw [forest_Same.p110001011110011001101_eq, h]
        simp
      rw [forest_Same.p1100010111100_eq]
      simp only [hlt, decide_true, cond_true, e0, e1, Option.bind_some, hia, hib, nk, f0, f1, f2, l1, asS]
      by_cases h1 : t = t'
      · by_cases h2 : x = x'
        · simp only [h1, h2, decide_true, Bool.not_true, cond_false, equal_spec ha hb' (show asz l ≤ 1050000 by omega), Option.bind_some, Out.on, if_true, asB]
          rw [← h1, ← h2]
          by_cases h4 : l = l'
          · simp only [h4, decide_true, Bool.not_true]
            obtain ⟨c1, c2⟩ := fo_cell hk
            obtain ⟨c3, c4⟩ := fo_cell hk'
            obtain ⟨q1, q2, _, q4⟩ := pair_lit c1 c3 c2 c4 st
            obtain ⟨cs, rest, hst, hPC⟩ := hP
            have hlen := hPC.len
            have hSl := mu_len S
            have hroom : room 48 (S.length + 1) = true := by simp [room]; omega
            have happ : appL false false 2 48 (.ms id g 0 S.length 2) (.is [vk, wk'] 1 .full) st = some (.ms id (g + 1) 0 (S.length + 1) 2, st.set id (.cells (g + 1) (cs ++ [vk, wk']) 0)) := by
              have hle : 0 + S.length * 2 ≤ (cs ++ rest).length := by rw [List.length_append, hlen]; omega
              simp only [appL, q4, Option.bind_some, hroom, and_self, if_true, hst, hle, List.drop_zero]
              rw [← hlen, List.take_left]
            have hid' : id < st.length := (List.getElem?_eq_some_iff.1 hst).1
            have hP' : Pile (st.set id (.cells (g + 1) (cs ++ [vk, wk']) 0)) id (g + 1) (S ++ [(k, k')]) := by
              refine ⟨cs ++ [vk, wk'], [], ?_, hPC.app ⟨vk, wk', [], rfl, hk, hk', rfl⟩⟩
              rw [List.append_nil]
              exact List.getElem?_set_self hid'
            obtain ⟨st', m1, m2⟩ := ihr m hm r' (S ++ [(k, k')]) ra rb n (i + 1) ta tb (st.set id (.cells (g + 1) (cs ++ [vk, wk']) 0)) id (g + 1) p nn hra' hrb' (by omega) (by omega)
              (by rw [mu_app]; simp only [mu]; omega) (by rw [mu_app]; simp only [mu]; omega) (by omega) hb hP' hnn
              (fun q hq => by
                rcases List.mem_append.1 hq with hq | hq
                · exact hS q hq
                · simp only [List.mem_cons, List.not_mem_nil, or_false] at hq
                  subst hq
                  show k.sz ≤ _
                  omega) hid (by rw [List.getElem?_set_ne hid]; exact hp)
            refine ⟨st', ?_, (Keeps.set hnn).trans m2⟩
            rw [forest_Same.p110001011110011001101_eq]
            simp only [cond_false, nk, f3, l1, Option.bind_some, q1, q2, happ, wi]
            have hl2 : (S ++ [(k, k')]).length = S.length + 1 := by simp
            rw [hl2] at m1
            rw [m1]
            simp [allSame, sameF, Bool.and_assoc]
          · refine ⟨st, ?_, Keeps.refl _ _⟩
            simp only [h4, decide_false, Bool.not_false]
            have := hfalse (by simp [sameF, h4])
            rw [← h1, ← h2] at this
            exact this
        · refine ⟨st, ?_, Keeps.refl _ _⟩
          have := hfalse (by simp [sameF, h2])
          simp only [h1, h2, decide_true, decide_false, Bool.not_true, Bool.not_false, cond_true, cond_false] at this ⊢
          exact this
      · refine ⟨st, ?_, Keeps.refl _ _⟩
        have := hfalse (by simp [sameF, h1])
        simp only [h1, decide_false, Bool.not_false, cond_true]
        exact this

theorem pile_all : ∀ m, PileOk m := by
  intro m
  induction m with
  | zero => intro S st id g nn h; omega
  | succ m ih =>
    intro S st id g nn hmu hmu2 hP hnn hS
    rcases List.eq_nil_or_concat S with rfl | ⟨S0, q, rfl⟩
    · refine ⟨st, ?_, Keeps.refl _ _⟩
      rw [forest_Same.p11000_eq]
      simp [lenL, allSame]
    · rw [List.concat_eq_append] at *
      obtain ⟨a, b⟩ := q
      have hSl := mu_len (S0 ++ [(a, b)])
      rw [mu_app] at hmu hmu2
      simp only [mu] at hmu hmu2
      obtain ⟨cs, rest, hst, hPC⟩ := hP
      obtain ⟨c0, d, rfl, hc0, v, w, d', hd, hv, hw, hd'⟩ := hPC.split
      cases hd'
      subst hd
      have hid : id < st.length := (List.getElem?_eq_some_iff.1 hst).1
      have hlc := hc0.len
      have hlen : (S0 ++ [(a, b)]).length = S0.length + 1 := by simp
      have hsz : a.sz ≤ 1050000 := hS (a, b) (by simp)
      obtain ⟨c1, c2⟩ := fo_cell hv
      obtain ⟨c3, c4⟩ := fo_cell hw
      have hlt : ((0 : Int) < ((S0.length + 1 : Nat) : Int)) := by omega
      have hw1 : IntKind.wrap .i64 (((S0.length + 1 : Nat) : Int) - 1) = ((S0.length : Nat) : Int) := w64 _ (by omega) (by rw [mu_app] at hSl; simp only [mu, hlen] at hSl; omega)
      have hia : ia 2 (.ms id g 0 (S0.length + 1) 2) (.int .i64 ((S0.length : Nat) : Int)) = some (.mp id g (0 + S0.length * 2)) := by
        simp only [ia, idx_nat (show S0.length < S0.length + 1 by omega), Option.bind_some, if_true]
      have hld : ld true 2 st (.mp id g (0 + S0.length * 2)) = some (.agg [v, w]) := by
        have h1 : 0 + S0.length * 2 + 2 ≤ (c0 ++ [v, w] ++ rest).length := by simp; omega
        have h2 : ((c0 ++ [v, w] ++ rest).drop (0 + S0.length * 2)).take 2 = [v, w] := by
          rw [Nat.zero_add, ← hlc, List.append_assoc, List.drop_left]
          rfl
        simp only [ld, ldCells, hst, h1, true_and, if_true, Option.bind_some, h2]
        rfl
      have hcut : cutL 2 (.ms id g 0 (S0.length + 1) 2) none (some (.int .i64 ((S0.length : Nat) : Int))) = some (.ms id g 0 S0.length 2) := by
        have h1 : bnd (S0.length + 1) (S0.length + 1) (some (.int .i64 ((S0.length : Nat) : Int))) = some S0.length := bnd_nat (by omega)
        have h3 : bnd 0 S0.length none = some 0 := rfl
        simp only [cutL, h1, h3, Option.bind_some, if_true, Nat.zero_mul, Nat.add_zero, Nat.sub_zero]
      have hall : ([v, w]).all AV.isCell = true := by rw [List.all_cons, List.all_cons, c1, c3]; rfl
      have hsto : sto 2 (st ++ [Ob.cells 0 [.nils, .nils] 0]) (.mp st.length 0 0) (.agg [v, w]) = some (st ++ [Ob.cells 0 [v, w] 0]) := m_new (cs := [.nils, .nils]) (cs' := [v, w]) hall rfl rfl
      have hg : (st ++ [Ob.cells 0 [v, w] 0])[st.length]? = some (.cells 0 [v, w] 0) := by simp
      have e0 : ld false 1 (st ++ [Ob.cells 0 [v, w] 0]) (.mp st.length 0 0) = some v := m_get hg rfl
      have e1 : ld false 1 (st ++ [Ob.cells 0 [v, w] 0]) (.mp st.length 0 1) = some w := m_get hg rfl
      have hk : Keeps nn st (st ++ [Ob.cells 0 [v, w] 0]) := Keeps.app (by omega)
      have hP0 : Pile (st ++ [Ob.cells 0 [v, w] 0]) id g S0 := ⟨c0, [v, w] ++ rest, by rw [List.getElem?_append_left hid, hst, List.append_assoc], hc0⟩
      rw [hlen, forest_Same.p11000_eq]
      simp only [lenL, Option.bind_some, hlt, decide_true, cond_true, hw1, hia, hld, hsto, hcut, e0, e1]
      have hlv := hv.len
      have hlw := hw.len
      unfold lenL at hlv hlw
      simp only [hlv, hlw, Option.bind_some]
      by_cases hl : a.len = b.len
      · have hl' : (((a.len : Nat) : Int) = ((b.len : Nat) : Int)) := by omega
        simp only [hl', decide_true, Bool.not_true, cond_false]
        by_cases h0 : a.len = 0
        · obtain rfl := len_nil h0
          obtain rfl := len_nil (hl.symm.trans h0)
          obtain ⟨st', m1, m2⟩ := ih S0 (st ++ [Ob.cells 0 [v, w] 0]) id g nn (by omega) (by omega) hP0 hnn (fun q hq => hS q (by simp [hq]))
          refine ⟨st', ?_, hk.trans m2⟩
          rw [forest_Same.p1100010111100_eq]
          simp only [Fo.len, Int.natCast_zero, Int.lt_irrefl, decide_false, cond_false, m1]
          simp [allSame, sameF]
        · rcases hv with ⟨h, _⟩ | ⟨ra, ta, rfl, hra⟩
          · exact absurd h h0
          · rcases hw with ⟨h, _⟩ | ⟨rb, tb, rfl, hrb⟩
            · have h : b.len = 0 := h
              omega
            · have hls := len_sz a
              rw [← hl] at hg
              obtain ⟨st', m1, m2⟩ := inner_all a m ih b S0 ra rb a.len 0 ta tb (st ++ [Ob.cells 0 [.is ra a.len ta, .is rb a.len tb] 0]) id g st.length nn (by simpa using hra) (by simpa using hrb) (by omega) (by omega) (by omega) (by omega) hsz (by omega) (by rw [← hl] at hP0; exact hP0) hnn (fun q hq => hS q (by simp [hq])) (by omega) hg
              refine ⟨st', ?_, by rw [← hl] at hk; exact hk.trans m2⟩
              rw [← hl]
              simp only [Int.natCast_zero] at m1
              rw [m1]
              simp [allSame]
      · have hl' : ¬ (((a.len : Nat) : Int) = ((b.len : Nat) : Int)) := by omega
        have hne : sameF a b = false := by
          cases h : sameF a b with
          | false => rfl
          | true => exact absurd (sameF_len h) hl
        refine ⟨_, ?_, hk⟩
        simp only [hl', decide_false, Bool.not_false, cond_true]
        simp [allSame, hne]

theorem same_spec {a b : Fo} {v w : AV} (hv : FoV a v) (hw : FoV b w) (hs : a.sz ≤ 1050000) (st : Sto) : CallR ap 20 [v, w] st = some (.ret (.bool (sameF a b)), st) := by
  obtain ⟨c1, c2⟩ := fo_cell hv
  obtain ⟨c3, c4⟩ := fo_cell hw
  obtain ⟨q1, _, q3, _⟩ := pair_lit c1 c3 c2 c4 st
  have hP : Pile (st ++ [Ob.cells 0 [v, w] 0]) st.length 0 [(a, b)] := ⟨[v, w], [], by simp, v, w, [], rfl, hv, hw, rfl⟩
  obtain ⟨st', h1, h2⟩ := pile_all (mu [(a, b)] + 1) [(a, b)] (st ++ [Ob.cells 0 [v, w] 0]) st.length 0 st.length (by omega) (by simp only [mu]; omega) hP (Nat.le_refl _) (fun p hp => by
    simp only [List.mem_cons, List.not_mem_nil, or_false] at hp
    subst hp
    exact hs)
  rw [forest_Same.call]
  refine ret_keep (st' := st') ?_ rfl rfl ((Keeps.app (Nat.le_refl _)).trans h2)
  rw [forest_Same.b_eq, q1]
  simp only [Option.bind_some, q3]
  simp only [List.length_cons, List.length_nil] at h1
  rw [h1]
  simp [allSame]

/-! ### The law -/
theorem awake1_spec : CallR ap 19 [] [.tip 0] = some (.ret (.bool true), [.tip 0]) := ev_call 100000 (by kernel_rfl)

theorem eq_bool (a b : Bool) : eqV .bool [] false (.bool a) (.bool b) = some (a == b) := rfl

theorem sames {a b : Fo} {v w : AV} (hv : FoV a v) (hw : FoV b w) (hs : a.sz ≤ 1050000) (hs' : b.sz ≤ 1050000) : CallR ap 4 [v, w] [] = some (.ret (.bool true), []) := by
  obtain ⟨p, hp⟩ := shallow_spec hv hs []
  obtain ⟨q, hq⟩ := shallow_spec hw hs' []
  suffices h : ∃ st', stencillaw7_ForestSames.b v w [] = some ⟨.ret (.bool true), none, st'⟩ ∧ Keeps 0 [] st' by
    obtain ⟨st', h1, h2⟩ := h
    rw [stencillaw7_ForestSames.call]
    exact ret_keep h1 rfl rfl h2
  have hL := lendF_fo a
  have hM := lendF_fo b
  obtain ⟨x, st', hc, hcv⟩ := copyTrees_spec hv hs []
  have hX := hcv.fo
  have hst : st' = [] ∨ st' = [.tip 0] := by
    rcases hcv with ⟨_, _, h⟩ | ⟨_, _, h⟩
    · exact .inl h
    · exact .inr h
  have haw : CallR ap 19 [] st' = some (.ret (.bool true), st') := by
    rcases hst with rfl | rfl
    · exact awake_spec
    · exact awake1_spec
  have main : stencillaw7_ForestSames.p101 v w false [] = some ⟨.ret (.bool true), none, st'⟩ := by
    rw [stencillaw7_ForestSames.p101_eq]
    simp only [cond_false, lendTrees_spec hv hs, lendTrees_spec hw hs', Option.bind_some, Out.on, same_spec hL hM hs, refSame_spec hv hw hs, eq_bool, beq_self_eq_true, cond_true, same_spec hM hL hs', sameF_symm b a, hc, same_spec hL hX hs, asB, sameF_refl, keptTrees_spec hv hs, keptTrees_spec hw hs', haw]
  have tru : stencillaw7_ForestSames.p101 v w true [] = some ⟨.ret (.bool true), none, []⟩ := by
    rw [stencillaw7_ForestSames.p101_eq]
    rfl
  rw [stencillaw7_ForestSames.b_eq]
  simp only [hp, hq, Option.bind_some, Out.on, asB]
  cases p with
  | false => exact ⟨[], by simp only [Bool.not_false, cond_true, tru], Keeps.refl _ _⟩
  | true =>
    cases q with
    | false => exact ⟨[], by simp only [Bool.not_false, Bool.not_true, cond_false, tru], Keeps.refl _ _⟩
    | true => exact ⟨st', by simp only [Bool.not_true, cond_false, main], ⟨Nat.zero_le _, fun i hi => absurd hi (Nat.not_lt_zero i)⟩⟩
end Go.Proofs.YtjcpcglhjeoifaaDoor
