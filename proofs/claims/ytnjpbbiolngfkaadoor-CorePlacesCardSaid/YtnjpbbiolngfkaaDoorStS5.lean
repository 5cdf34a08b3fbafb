/- What the operations do in memory: places, parts, cuts, calls of len. -/
import Derived.Test.YtnjpbbiolngfkaaDoorStS4
namespace Go.St
open Go.RowKit
set_option linter.unusedVariables false
set_option linter.unusedSimpArgs false

section
variable {P : Program} {A : AProg} {w0 : World} {G : Gh} {st st' : Sto} {w : World} {R : Type}

theorem kk_struct {fs : List (Nat × TypeId)} {d : TypeDesc} (h : kindB (.struct fs) d = true) : ∃ l, d = .struct l ∧ fieldsB fs l.toList = true := by
  cases d <;> simp_all [kindB]
theorem kk_slice {e : TypeId} {d : TypeDesc} (h : kindB (.slice e) d = true) : d = .slice e := by cases d <;> simp_all [kindB]
theorem kk_arr {n : Nat} {e : TypeId} {d : TypeDesc} (h : kindB (.arr n e) d = true) : d = .array n e := by cases d <;> simp_all [kindB]
theorem kk_str {d : TypeDesc} (h : kindB .str d = true) : d = .string := by cases d <;> simp_all [kindB]
theorem kk_int {k : IntKind} {d : TypeDesc} (h : kindB (.int k) d = true) : d = .int k := by cases d <;> simp_all [kindB]
theorem kk_map {k e : TypeId} {d : TypeDesc} (h : kindB (.map k e) d = true) : d = .map k e := by cases d <;> simp_all [kindB]

theorem fields_at : ∀ {fs : List (Nat × TypeId)} {l : List Field} {j : Nat} {x : Nat × TypeId}, fieldsB fs l = true → fs[j]? = some x → ∃ f, l[j]? = some f ∧ f.offset = x.1 ∧ f.type = x.2 := by
  intro fs
  induction fs with
  | nil => intro l j x h hx; simp at hx
  | cons y r ih =>
    intro l j x h hx
    cases l with
    | nil => simp [fieldsB] at h
    | cons f l =>
      simp only [fieldsB, Bool.and_eq_true, beq_iff_eq] at h
      cases j with
      | zero => simp at hx; subst hx; exact ⟨f, rfl, h.1.1.symm, h.1.2.symm⟩
      | succ j => obtain ⟨g, hg⟩ := ih h.2 (by simpa using hx); exact ⟨g, by simpa using hg.1, hg.2⟩

theorem VR.ptr_ip {cs : List AV} {v : Value} (h : VR G (.ip cs) v) {off n : Nat} (hn : off + n ≤ cs.length) : ∃ b o, v = .pointer (some ⟨b, o, none⟩) ∧ VR G (.ip ((cs.drop off).take n)) (.pointer (some ⟨b, o + off, none⟩)) := by
  cases h with
  | ip _ b o l hH hl hh =>
    refine ⟨b, o, rfl, .ip _ b (o + off) l hH (by simp; omega) fun j a v ha hv => ?_⟩
    rw [List.getElem?_take] at ha
    split at ha
    · rw [List.getElem?_drop] at ha
      exact hh (off + j) a v ha (by rw [← hv]; congr 1; omega)
    · cases ha

theorem g_fieldAddr (hT : TabOk P A) (hR : Rel A.bld A.u8 w0 G st w) {s : TypeId} {p v : AV} {pv : Value} {f : Nat} (h : fieldAddr A s p f = some v) (hp : VR G p pv) : Gives P A w0 G (Instr.fieldAt s pv f) w v st := by
  unfold fieldAddr at h
  cases hs : assoc s A.tab with
  | none => simp [hs] at h
  | some td =>
    simp only [hs, Option.bind_some] at h
    obtain ⟨i, d, hi, hd, _, _, hk, _⟩ := (hT s td hs).ok
    split at h
    · rename_i fs hfs
      rw [hfs] at hk
      obtain ⟨l, rfl, hl⟩ := kk_struct hk
      cases hx : fs[f]? with
      | none => simp [hx] at h
      | some x =>
        simp only [hx, Option.bind_some] at h
        obtain ⟨fl, hfl, ho, hty⟩ := fields_at hl hx
        cases ht : assoc x.2 A.tab with
        | none => simp [ht] at h
        | some tf =>
          simp only [ht, Option.bind_some] at h
          obtain ⟨i2, d2, hi2, hd2, hs2, _, hk2, _⟩ := (hT x.2 tf ht).ok
          split at h
          · cases h
          · rename_i hsz
            have hfl' : l[f]? = some fl := by rw [← Array.getElem?_toList]; exact hfl
            have hplace : ∀ b o, (fieldPlace ⟨b, o, none⟩ fl).run P w = .ok ⟨b, o + x.1, none⟩ w := by
              intro b o
              rw [hty.symm] at hi2
              simp [fieldPlace, r_size hi2, hs2, hsz, ho, add_lit]
            unfold fa at h
            split at h
            · split at h
              · rename_i hn
                cases h
                obtain ⟨b, o, rfl, hv⟩ := hp.ptr_ip hn
                exact Gives.same hR (by simp [Instr.fieldAt, run_underlying hd, hfl', Instr.sureAddr, hplace]) hv
              · cases h
            · cases h
              cases hp with
              | mp _ _ _ b o hρ =>
                refine Gives.same hR (v' := .pointer (some ⟨b, o + (_ + x.1), none⟩)) ?_ (.mp _ _ _ b o hρ)
                simp [Instr.fieldAt, run_underlying hd, hfl', Instr.sureAddr, hplace, Nat.add_assoc]
            · cases h
    · cases h

theorem r_part {tf : TD} {t : TypeId} {i : TypeInfo} {d : TypeDesc} (hi : P.info? t = some i) (hd : P.underlying t = some d) (hs : i.size = tf.size) (hk : kindB tf.k d = true) {cs : List AV} {xs : Array Value} {off : Nat} {v : AV}
    (h : partA tf.isAgg tf.size cs off = some v) (hl : cs.length = xs.size) (hv : ∀ (j : Nat) (a : AV) (u : Value), cs[j]? = some a → xs[j]? = some u → VR G a u) :
    ∃ u, (part t xs off).run P w = .ok u w ∧ VR G v u := by
  unfold partA at h
  split at h
  · rename_i hag
    split at h
    · rename_i hn
      cases h
      refine ⟨.agg (xs.extract off (off + tf.size)), by simp [part, r_isAgg hd hk, hag, r_size hi, hs], .agg _ _ (by simp; omega) fun j a u ha hu => ?_⟩
      rw [List.getElem?_take] at ha
      split at ha
      · rename_i hj
        rw [List.getElem?_drop] at ha
        refine hv (off + j) a u ha ?_
        rw [Array.getElem?_extract] at hu
        split at hu
        · exact hu
        · cases hu
      · cases ha
    · cases h
  · rename_i hag
    have hj : off < cs.length := (List.getElem?_eq_some_iff.1 h).1
    have hj' : off < xs.size := by omega
    refine ⟨xs[off], ?_, hv off v _ h (Array.getElem?_eq_getElem hj')⟩
    simp [part, r_isAgg hd hk, hag, hj']

theorem g_field (hT : TabOk P A) (hR : Rel A.bld A.u8 w0 G st w) {s : TypeId} {x v : AV} {xv : Value} {f : Nat} (h : field A s x f = some v) (hx : VR G x xv) : Gives P A w0 G (Instr.field s xv f) w v st := by
  unfold field at h
  cases hs : assoc s A.tab with
  | none => simp [hs] at h
  | some td =>
    simp only [hs, Option.bind_some] at h
    obtain ⟨i, d, hi, hd, _, _, hk, _⟩ := (hT s td hs).ok
    split at h
    · rename_i fs hfs
      rw [hfs] at hk
      obtain ⟨l, rfl, hl⟩ := kk_struct hk
      cases hy : fs[f]? with
      | none => simp [hy] at h
      | some y =>
        simp only [hy, Option.bind_some] at h
        obtain ⟨fl, hfl, ho, hty⟩ := fields_at hl hy
        cases ht : assoc y.2 A.tab with
        | none => simp [ht] at h
        | some tf =>
          simp only [ht, Option.bind_some] at h
          obtain ⟨i2, d2, hi2, hd2, hs2, _, hk2, _⟩ := (hT y.2 tf ht).ok
          have hfl' : l[f]? = some fl := by rw [← Array.getElem?_toList]; exact hfl
          unfold fieldOf at h
          split at h
          · rename_i cs
            cases hx with
            | agg _ xs hl2 hv =>
              obtain ⟨u, hu, hvu⟩ := r_part (w := w) hi2 hd2 hs2 hk2 h hl2 hv
              rw [← hty, ← ho] at hu
              exact Gives.same hR (by simp [Instr.field, run_underlying hd, hfl', asAgg, hu]) hvu
          · cases h
    · cases h

theorem idx_spec {i : Int} {n j : Nat} (h : idx i n = some j) : 0 ≤ i ∧ i < n ∧ j = i.toNat ∧ j < n := by
  unfold idx at h
  split at h
  · rename_i hc; cases h; exact ⟨hc.1, hc.2, rfl, by omega⟩
  · cases h

theorem g_indexAddr (hT : TabOk P A) (hR : Rel A.bld A.u8 w0 G st w) {t : TypeId} {x i v : AV} {xv iv : Value} (h : indexAddr A t x i = some v) (hx : VR G x xv) (hi : VR G i iv) : Gives P A w0 G (Instr.indexAt t xv iv) w v st := by
  unfold indexAddr at h
  cases hs : assoc t A.tab with
  | none => simp [hs] at h
  | some td =>
    simp only [hs, Option.bind_some] at h
    obtain ⟨_, d, _, hd, _, _, hk, _⟩ := (hT t td hs).ok
    split at h
    · rename_i e he
      rw [he] at hk
      obtain rfl := kk_slice hk
      cases ht : assoc e A.tab with
      | none => simp [ht] at h
      | some te =>
        simp only [ht, Option.bind_some] at h
        obtain ⟨i2, d2, hi2, hd2, hs2, _, hk2, _⟩ := (hT e te ht).ok
        unfold ia at h
        split at h
        · rename_i row len tok ik n
          cases hi
          cases hj : idx n len with
          | none => simp [hj] at h
          | some j =>
            simp only [hj, Option.bind_some] at h
            obtain ⟨h0, h1, rfl, h2⟩ := idx_spec hj
            split at h
            · rename_i hn
              cases h
              cases hx with
              | is0 a cap => exfalso; omega
              | is _ _ _ b o cap l hH hl hc htk hh h1' =>
                refine Gives.same hR (v' := .pointer (some ⟨b, o + n.toNat * te.size, none⟩)) ?_ (.ip _ b (o + n.toNat * te.size) l hH (by simp; rw [Nat.add_mul, Nat.one_mul] at hn; omega) fun j a v ha hv => ?_)
                · simp [Instr.indexAt, asIntOf, run_underlying hd, h0, h1, r_size hi2, hs2, add_lit]
                · rw [List.getElem?_take] at ha
                  split at ha
                  · rw [List.getElem?_drop] at ha
                    exact hh _ a v ha (by rw [← hv]; congr 1; omega)
                  · cases ha
            · cases h
        · rename_i id g off len es ik n
          cases hi
          split at h
          · rename_i hes
            subst hes
            cases hj : idx n len with
            | none => simp [hj] at h
            | some j =>
              simp only [hj, Option.bind_some] at h
              cases h
              obtain ⟨h0, h1, rfl, h2⟩ := idx_spec hj
              cases hx with
              | ms _ _ _ _ _ b o cap a hρ hc ha =>
                rcases ha with ha | ⟨rfl, _⟩
                · omega
                · refine Gives.same hR (v' := .pointer (some ⟨b, o + (off + n.toNat * te.size), none⟩)) ?_ (.mp _ _ _ b o hρ)
                  simp [Instr.indexAt, asIntOf, run_underlying hd, h0, h1, r_size hi2, hs2, add_lit, Nat.add_assoc]
          · cases h
        · cases h
    · rename_i n e he
      rw [he] at hk
      obtain rfl := kk_arr hk
      cases ht : assoc e A.tab with
      | none => simp [ht] at h
      | some te =>
        simp only [ht, Option.bind_some] at h
        obtain ⟨i2, d2, hi2, hd2, hs2, _, hk2, _⟩ := (hT e te ht).ok
        unfold iaArr at h
        split at h
        · rename_i cs ik m
          cases hi
          cases hj : idx m n with
          | none => simp [hj] at h
          | some j =>
            simp only [hj, Option.bind_some] at h
            obtain ⟨h0, h1, rfl, h2⟩ := idx_spec hj
            split at h
            · rename_i hn
              cases h
              obtain ⟨b, o, rfl, hv⟩ := hx.ptr_ip (off := m.toNat * te.size) (n := te.size) (by rw [Nat.add_mul, Nat.one_mul] at hn; omega)
              exact Gives.same hR (by simp [Instr.indexAt, asIntOf, run_underlying hd, Instr.sureAddr, h0, h1, r_size hi2, hs2, add_lit]) hv
            · cases h
        · rename_i id g off ik m
          cases hi
          cases hj : idx m n with
          | none => simp [hj] at h
          | some j =>
            simp only [hj, Option.bind_some] at h
            cases h
            obtain ⟨h0, h1, rfl, h2⟩ := idx_spec hj
            cases hx with
            | mp _ _ _ b o hρ =>
              refine Gives.same hR (v' := .pointer (some ⟨b, o + (off + m.toNat * te.size), none⟩)) ?_ (.mp _ _ _ b o hρ)
              simp [Instr.indexAt, asIntOf, run_underlying hd, Instr.sureAddr, h0, h1, r_size hi2, hs2, add_lit, Nat.add_assoc]
        · cases h
    · cases h

theorem g_index (hT : TabOk P A) (hR : Rel A.bld A.u8 w0 G st w) {t : TypeId} {x i : AV} {xv iv : Value} {c : AV → Option R} {r : R} (h : indexK A t x i c = some r) (hx : VR G x xv) (hi : VR G i iv) :
    ∃ v, c v = some r ∧ Gives P A w0 G (Instr.index t xv iv) w v st := by
  unfold indexK at h
  cases hs : assoc t A.tab with
  | none => simp [hs] at h
  | some td =>
    simp only [hs, Option.bind_some] at h
    obtain ⟨_, d, _, hd, _, _, hk, _⟩ := (hT t td hs).ok
    split at h
    · rename_i he
      rw [he] at hk
      obtain rfl := kk_str hk
      unfold asS asInt at h
      split at h
      · rename_i s
        simp only [Option.bind_some] at h
        split at h
        · rename_i ik n
          simp only [Option.bind_some] at h
          cases hj : idx n s.size with
          | none => simp [hj] at h
          | some j =>
            simp only [hj, Option.bind_some] at h
            obtain ⟨h0, h1, rfl, h2⟩ := idx_spec hj
            cases hx; cases hi
            refine ⟨_, h, Gives.same hR (v' := .int .u8 (s.get! n.toNat).toNat) ?_ (.int _ _)⟩
            have hg : s[n.toNat]? = some (s.get! n.toNat) := by
              rw [getElem?_pos s n.toNat h2]
              congr 1
              show s.data[n.toNat] = s.data[n.toNat]!
              rw [getElem!_pos]
            simp [Instr.index, asIntOf, run_underlying hd, h0, hg]
        · simp at h
      · simp at h
    · rename_i n e he
      rw [he] at hk
      obtain rfl := kk_arr hk
      cases ht : assoc e A.tab with
      | none => simp [ht] at h
      | some te =>
        simp only [ht, Option.bind_some] at h
        obtain ⟨i2, d2, hi2, hd2, hs2, _, hk2, _⟩ := (hT e te ht).ok
        unfold ixArr at h
        split at h
        · rename_i cs ik m
          cases hi
          cases hj : idx m n with
          | none => simp [hj] at h
          | some j =>
            simp only [hj, Option.bind_some] at h
            obtain ⟨h0, h1, rfl, h2⟩ := idx_spec hj
            cases hx with
            | agg _ xs hl hv =>
              cases hp : partA te.isAgg te.size cs (m.toNat * te.size) with
              | none => simp [hp] at h
              | some v =>
                simp only [hp, Option.bind_some] at h
                obtain ⟨u, hu, hvu⟩ := r_part (w := w) hi2 hd2 hs2 hk2 hp hl hv
                exact ⟨v, h, Gives.same hR (by simp [Instr.index, asIntOf, run_underlying hd, h0, h1, r_size hi2, hs2, hu]) hvu⟩
        · simp at h
    · cases h

/-! ### Cuts -/
def OVR (G : Gh) (x : Option AV) (v : Option Value) : Prop := (x = none ∧ v = none) ∨ ∃ a u, x = some a ∧ v = some u ∧ VR G a u

theorem bnd_some {d most h : Nat} {x : Option AV} {xv : Option Value} (hb : bnd d most x = some h) (hx : OVR G x xv) :
    (x = none ∧ xv = none ∧ h = d) ∨ ∃ k i, xv = some (.int k i) ∧ x ≠ none ∧ 0 ≤ i ∧ i ≤ most ∧ h = i.toNat ∧ h ≤ most := by
  rcases hx with ⟨rfl, rfl⟩ | ⟨a, u, rfl, rfl, hx⟩
  · simp only [bnd, Option.some.injEq] at hb
    exact .inl ⟨rfl, rfl, hb.symm⟩
  · cases a with
    | int k i =>
      cases hx
      simp only [bnd] at hb
      by_cases hc : 0 ≤ i ∧ i ≤ most
      · rw [if_pos hc] at hb
        cases hb
        exact .inr ⟨k, i, rfl, by simp, hc.1, hc.2, rfl, by omega⟩
      · rw [if_neg hc] at hb; cases hb
    | _ => simp [bnd] at hb

theorem r_bounds {len most cap h l : Nat} {b : Bool} {lo hi : Option AV} {lov hiv : Option Value} (hcap : most ≤ cap) (hlm : len ≤ most) (hh : bnd len most hi = some h) (hl : bnd 0 h lo = some l) (hlo : OVR G lo lov) (hhi : OVR G hi hiv) :
    (Instr.sliceBounds b len cap lov hiv none).run P w = .ok (l, h, cap) w ∧ l ≤ h ∧ h ≤ most := by
  have h1 := bnd_some hh hhi
  have h2 := bnd_some hl hlo
  rcases h1 with ⟨rfl, rfl, rfl⟩ | ⟨k, i, rfl, hne, i0, i1, rfl, i2⟩ <;> rcases h2 with ⟨rfl, rfl, rfl⟩ | ⟨k', i', rfl, hne', i0', i1', rfl, i2'⟩
  · exact ⟨by simp [Instr.sliceBounds], by omega, by omega⟩
  · exact ⟨by simp [Instr.sliceBounds, Instr.sliceBound, asIntOf, i0', i1'], by omega, by omega⟩
  · have hc : i ≤ (cap : Int) := by omega
    exact ⟨by simp [Instr.sliceBounds, Instr.sliceBound, asIntOf, i0, hc], by omega, by omega⟩
  · have hc : i ≤ (cap : Int) := by omega
    have hc' : i' ≤ i := by omega
    exact ⟨by simp [Instr.sliceBounds, Instr.sliceBound, asIntOf, i0, hc, i0', hc', Int.max_eq_left i0], by omega, by omega⟩

end

end Go.St
