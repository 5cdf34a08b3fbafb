/- What the operations do in memory: cuts, lengths, conversions, new memory. -/
import Derived.Test.YtnjpbbiolngfkaaDoorStS5
import Derived.Laws.BytesString
import Derived.Laws.IdiomStrings
namespace Go.St
open Go.RowKit
set_option linter.unusedVariables false
set_option linter.unusedSimpArgs false

section
variable {P : Program} {A : AProg} {w0 : World} {G : Gh} {st st' : Sto} {w : World} {R : Type}

theorem TokR.most {tok : Tok} {row len b o cap : Nat} (ht : TokR G tok row len b o cap) (hc : len ≤ cap) : len ≤ tok.most len ∧ tok.most len ≤ cap := by
  cases tok with
  | cut n => exact ht
  | _ => exact ⟨Nat.le_refl _, hc⟩

theorem TokR.part {tok : Tok} {row len b o cap sz l h : Nat} (ht : TokR G tok row len b o cap) (hrow : row = tok.most len * sz) (hl : l ≤ h) (hh : h ≤ tok.most len) (hc : len ≤ cap) :
    TokR G (tok.part len h l) (row - l * sz) (h - l) b (o + l * sz) (cap - l) := by
  have key : ∀ t : Tok, h ≤ len → (h = len → TokR G t (row - l * sz) (h - l) b (o + l * sz) (cap - l)) → TokR G (if h = len then t else .cut (len - l)) (row - l * sz) (h - l) b (o + l * sz) (cap - l) := by
    intro t h1 h2
    split
    · rename_i he; exact h2 he
    · exact ⟨by omega, by omega⟩
  cases tok with
  | cut n =>
    simp only [Tok.most] at hh
    obtain ⟨h1, h2⟩ := ht
    exact ⟨by omega, by omega⟩
  | no => exact key .no hh fun _ => trivial
  | full => exact key .full hh fun he => by simp only [TokR] at ht ⊢; omega
  | tip i g es =>
    refine key (.tip i g es) hh fun he => ?_
    simp only [Tok.most] at hrow hh
    obtain ⟨hk, ht⟩ := ht
    subst he
    refine ⟨hk, ?_⟩
    rcases ht with ht | ⟨h1, h2, n, h3, h4⟩
    · exact .inl (by omega)
    · by_cases h0 : h = 0
      · subst h0
        have : l = 0 := by omega
        subst this
        exact .inr ⟨by simpa [hrow] using h1, by simp [hrow], n, h3, by simpa using h4⟩
      · have he : es = sz := Nat.eq_of_mul_eq_mul_left (by omega) (h2.symm.trans hrow)
        subst he
        have hm := Nat.mul_le_mul_right es hl
        refine .inr ⟨?_, by rw [Nat.sub_mul]; omega, n, h3, ?_⟩
        · rw [h1, hrow]
          congr 2
          omega
        · rw [Nat.sub_mul]
          have := Nat.mul_le_mul_right es (show l ≤ cap by omega)
          omega

theorem g_slice (hT : TabOk P A) (hR : Rel A.bld A.u8 w0 G st w) {t : TypeId} {x : AV} {xv : Value} {lo hi mx : Option AV} {lov hiv mxv : Option Value} {c : AV → Option R} {r : R} (h : sliceK A t x lo hi mx st c = some r)
    (hx : VR G x xv) (hlo : OVR G lo lov) (hhi : OVR G hi hiv) (hmx : OVR G mx mxv) : ∃ v, c v = some r ∧ Gives P A w0 G (Instr.sliceAt t xv lov hiv mxv) w v st := by
  unfold sliceK at h
  split at h
  · cases h
  · rcases hmx with ⟨_, rfl⟩ | ⟨_, _, hm, _⟩
    · cases hs : assoc t A.tab with
      | none => simp [hs] at h
      | some td =>
        simp only [hs, Option.bind_some] at h
        obtain ⟨_, d, _, hd, _, _, hk, _⟩ := (hT t td hs).ok
        split at h
        · rename_i he
          rw [he] at hk
          obtain rfl := kk_str hk
          cases x with
          | str s =>
            simp only [asS, Option.bind_some] at h
            cases hh : bnd s.size s.size hi with
            | none => simp [hh] at h
            | some hn =>
              simp only [hh, Option.bind_some] at h
              cases hl : bnd 0 hn lo with
              | none => simp [hl] at h
              | some ln =>
                simp only [hl, Option.bind_some] at h
                cases hx
                obtain ⟨hb, _, _⟩ := r_bounds (P := P) (w := w) (b := false) (Nat.le_refl _) (Nat.le_refl _) hh hl hlo hhi
                exact ⟨_, h, Gives.same hR (by simp [Instr.sliceAt, Instr.slice, run_underlying hd, hb]) (.str _)⟩
          | _ => simp [asS] at h
        · rename_i e he
          rw [he] at hk
          obtain rfl := kk_slice hk
          cases ht : assoc e A.tab with
          | none => simp [ht] at h
          | some te =>
            simp only [ht, Option.bind_some] at h
            obtain ⟨i2, d2, hi2, hd2, hs2, _, hk2, _⟩ := (hT e te ht).ok
            cases hc : cutL te.size x lo hi with
            | none => simp [hc] at h
            | some v =>
              simp only [hc, Option.bind_some] at h
              refine ⟨v, h, ?_⟩
              unfold cutL at hc
              split at hc
              · cases hh : bnd 0 0 hi with
                | none => simp [hh] at hc
                | some hn =>
                  simp only [hh, Option.bind_some] at hc
                  cases hl : bnd 0 hn lo with
                  | none => simp [hl] at hc
                  | some ln =>
                    simp only [hl, Option.bind_some, Option.some.injEq] at hc
                    subst hc
                    cases hx
                    obtain ⟨hb, h1, h2⟩ := r_bounds (P := P) (w := w) (b := true) (Nat.le_refl _) (Nat.le_refl _) hh hl hlo hhi
                    have e1 : hn = 0 := by omega
                    have e2 : ln = 0 := by omega
                    subst e1; subst e2
                    exact Gives.same hR (v' := .slice none 0 0) (by simp [Instr.sliceAt, Instr.slice, run_underlying hd, hb, r_size hi2]) .nils
              · rename_i row len tok
                cases hh : bnd len (tok.most len) hi with
                | none => simp [hh] at hc
                | some hn =>
                  simp only [hh, Option.bind_some] at hc
                  cases hl : bnd 0 hn lo with
                  | none => simp [hl] at hc
                  | some ln =>
                    simp only [hl, Option.bind_some] at hc
                    split at hc
                    · rename_i hrl
                      simp only [Option.some.injEq] at hc
                      subst hc
                      cases hx with
                      | is0 a cap =>
                        obtain ⟨hb, h1, h2⟩ := r_bounds (P := P) (w := w) (b := true) (Nat.zero_le cap) (Nat.le_refl _) hh hl hlo hhi
                        have e1 : hn = 0 := by omega
                        have e2 : ln = 0 := by omega
                        subst e1; subst e2
                        by_cases hcl : cap = 0
                        · subst hcl
                          refine Gives.same hR (v' := .slice (some a) 0 0) (by simp [Instr.sliceAt, Instr.slice, run_underlying hd, hb, r_size hi2]) ?_
                          simpa [Tok.part] using VR.is0 a 0
                        · refine Gives.same hR (v' := .slice (some (a.add 0)) 0 cap) (by simp [Instr.sliceAt, Instr.slice, run_underlying hd, hb, r_size hi2, hcl, hs2, Ne.symm hcl]) ?_
                          simpa [Tok.part] using VR.is0 (a.add 0) cap
                      | is _ _ _ b o cap l hH hlen hcap htk hcell hone =>
                        obtain ⟨hm1, hm2⟩ := htk.most hcap
                        obtain ⟨hb, h1, h2⟩ := r_bounds (P := P) (w := w) (b := true) hm2 hm1 hh hl hlo hhi
                        have hp := htk.part hrl h1 h2 hcap
                        have hd3 : (row.drop (ln * te.size)).length = row.length - ln * te.size := by simp
                        have hm3 : ln * te.size ≤ row.length := by rw [hrl]; exact Nat.mul_le_mul_right _ (by omega)
                        by_cases hcl : cap = ln
                        · subst hcl
                          refine Gives.same hR (v' := .slice (some ⟨b, o, none⟩) (hn - cap) (cap - cap)) (by simp [Instr.sliceAt, Instr.slice, run_underlying hd, hb, r_size hi2]) ?_
                          have e1 : tok.most len = cap := by omega
                          have hz : row.length - cap * te.size = 0 := by rw [hrl, e1]; omega
                          have hnil : row.drop (cap * te.size) = [] := List.eq_nil_of_length_eq_zero (by rw [hd3, hz])
                          rw [hnil]
                          refine .is [] _ _ b o _ l hH (by simp; omega) (by omega) ?_ (fun j a v ha _ => by simp at ha) (fun j v hj _ => by simp at hj)
                          cases tok with
                          | cut n =>
                            simp only [Tok.most] at e1
                            exact ⟨by omega, by omega⟩
                          | _ =>
                            simp only [Tok.most] at e1
                            simp only [Tok.part]
                            rw [if_pos (by omega)]
                            first | trivial | (simp only [TokR]; omega) | exact ⟨htk.1, .inl (by omega)⟩
                        · refine Gives.same hR (v' := .slice (some ⟨b, o + ln * te.size, none⟩) (hn - ln) (cap - ln)) (by simp [Instr.sliceAt, Instr.slice, run_underlying hd, hb, r_size hi2, hcl, hs2, add_lit]) ?_
                          refine .is _ _ _ b _ _ l hH (by rw [hd3]; omega) (by omega) (by rw [hd3]; exact hp) (fun j a v ha hv => ?_) (fun j v hj hv => hone (ln * te.size + j) v (by rw [hd3] at hj; omega) (by rw [← hv]; congr 1; omega))
                          rw [List.getElem?_drop] at ha
                          exact hcell _ a v ha (by rw [← hv]; congr 1; omega)
                    · cases hc
              · rename_i id g off len es
                cases hh : bnd len len hi with
                | none => simp [hh] at hc
                | some hn =>
                  simp only [hh, Option.bind_some] at hc
                  cases hl : bnd 0 hn lo with
                  | none => simp [hl] at hc
                  | some ln =>
                    simp only [hl, Option.bind_some] at hc
                    split at hc
                    · rename_i hes
                      subst hes
                      simp only [Option.some.injEq] at hc
                      subst hc
                      cases hx with
                      | ms _ _ _ _ _ b o cap a hρ hcap ha =>
                        obtain ⟨hb, h1, h2⟩ := r_bounds (P := P) (w := w) (b := true) hcap (Nat.le_refl _) hh hl hlo hhi
                        by_cases hcl : cap = ln
                        · subst hcl
                          refine Gives.same hR (v' := .slice (some a) (hn - cap) (cap - cap)) (by simp [Instr.sliceAt, Instr.slice, run_underlying hd, hb, r_size hi2]) ?_
                          exact .ms id g _ _ _ b o _ a hρ (by omega) (.inl (by omega))
                        · rcases ha with ha | ⟨rfl, n, hn1, hn2⟩
                          · omega
                          · refine Gives.same hR (v' := .slice (some ⟨b, o + off + ln * te.size, none⟩) (hn - ln) (cap - ln)) (by simp [Instr.sliceAt, Instr.slice, run_underlying hd, hb, r_size hi2, hcl, hs2, add_lit]) ?_
                            refine .ms id g _ _ _ b o _ _ hρ (by omega) (.inr ⟨by rw [Nat.add_assoc], n, hn1, ?_⟩)
                            have : (cap - ln) * te.size = cap * te.size - ln * te.size := Nat.sub_mul _ _ _
                            have := Nat.mul_le_mul_right te.size (show ln ≤ cap by omega)
                            omega
                    · cases hc
              · cases hc
        · rename_i n e he
          rw [he] at hk
          obtain rfl := kk_arr hk
          cases ht : assoc e A.tab with
          | none => simp [ht] at h
          | some te =>
            simp only [ht, Option.bind_some] at h
            obtain ⟨i2, d2, hi2, hd2, hs2, _, hk2, _⟩ := (hT e te ht).ok
            cases hc : arrCut n te.size x lo hi st with
            | none => simp [hc] at h
            | some v =>
              simp only [hc, Option.bind_some] at h
              refine ⟨v, h, ?_⟩
              unfold arrCut at hc
              split at hc
              · rename_i id g off
                split at hc
                · rename_i g' cs fz hst
                  split at hc
                  · rename_i hcond
                    obtain ⟨rfl, hcl⟩ := hcond
                    cases hh : bnd n n hi with
                    | none => simp [hh] at hc
                    | some hn =>
                      simp only [hh, Option.bind_some] at hc
                      cases hl : bnd 0 hn lo with
                      | none => simp [hl] at hc
                      | some ln =>
                        simp only [hl, Option.bind_some, Option.some.injEq] at hc
                        subst hc
                        cases hx with
                        | mp _ _ _ b o hρ =>
                          have hR2 := hR
                          obtain ⟨own, hRo⟩ := hR2
                          obtain ⟨b', o', arr, tt, fr, k1, k2, k3, k4, k5, k6, k7, k9, k8⟩ := hRo.obj _ _ hst
                          rw [hρ] at k1
                          simp only [Option.some.injEq, Prod.mk.injEq] at k1
                          obtain ⟨rfl, rfl⟩ := k1
                          have hlen := k7.len
                          simp only [List.length_take, List.length_drop, Array.length_toList] at hlen
                          obtain ⟨hb, h1, h2⟩ := r_bounds (P := P) (w := w) (b := false) (Nat.le_refl n) (Nat.le_refl _) hh hl hlo hhi
                          have hm := Nat.mul_le_mul_right te.size (show ln ≤ n by omega)
                          have hs3 : (n - ln) * te.size = n * te.size - ln * te.size := Nat.sub_mul _ _ _
                          by_cases hcl2 : n = ln
                          · subst hcl2
                            refine Gives.same hR (v' := .slice (some ⟨b, o + off, none⟩) (hn - n) (n - n)) (by simp [Instr.sliceAt, Instr.sureAddr, run_underlying hd, hb, r_size hi2]) ?_
                            exact .ms _ _ _ _ _ b o _ _ hρ (by omega) (.inl (by omega))
                          · refine Gives.same hR (v' := .slice (some ⟨b, o + off + ln * te.size, none⟩) (hn - ln) (n - ln)) (by simp [Instr.sliceAt, Instr.sureAddr, run_underlying hd, hb, r_size hi2, hcl2, hs2, add_lit]) ?_
                            refine .ms _ _ _ _ _ b o _ _ hρ (by omega) (.inr ⟨by rw [Nat.add_assoc], _, k4, ?_⟩)
                            omega
                  · cases hc
                · cases hc
              · cases hc
        · cases h
    · cases hm

theorem g_len (hT : TabOk P A) (hR : Rel A.bld A.u8 w0 G st w) {t : TypeId} {x : AV} {xv : Value} {c : AV → Option R} {r : R} (h : lenK A t x st c = some r) (hx : VR G x xv) :
    ∃ v, c v = some r ∧ ∀ ty : TypeId, Gives P A w0 G (Builtin.len_ #[t] ty #[xv]) w v st := by
  unfold lenK at h
  cases hs : assoc t A.tab with
  | none => simp [hs] at h
  | some td =>
    simp only [hs, Option.bind_some] at h
    obtain ⟨_, d, _, hd, _, _, hk, _⟩ := (hT t td hs).ok
    split at h
    · rename_i he
      rw [he] at hk
      obtain rfl := kk_str hk
      cases x with
      | str s => cases hx; exact ⟨_, h, fun ty => Gives.same hR (by simp [Builtin.len_, run_underlying hd, goInt]) (.int _ _)⟩
      | _ => simp [asS] at h
    · rename_i n e he
      rw [he] at hk
      obtain rfl := kk_arr hk
      exact ⟨_, h, fun ty => Gives.same hR (by simp [Builtin.len_, run_underlying hd, goInt]) (.int _ _)⟩
    · rename_i e he
      rw [he] at hk
      obtain rfl := kk_slice hk
      cases hl : lenL x with
      | none => simp [hl] at h
      | some n =>
        simp only [hl, Option.bind_some] at h
        refine ⟨_, h, fun ty => ?_⟩
        unfold lenL at hl
        split at hl <;> cases hl <;> cases hx <;> exact Gives.same hR (by simp [Builtin.len_, run_underlying hd, goInt]) (.int _ _)
    · rename_i k e he
      rw [he] at hk
      obtain rfl := kk_map hk
      cases hl : lenM x st with
      | none => simp [hl] at h
      | some n =>
        simp only [hl, Option.bind_some] at h
        refine ⟨_, h, fun ty => ?_⟩
        unfold lenM at hl
        split at hl
        · cases hl; cases hx; exact Gives.same hR (by simp [Builtin.len_, run_underlying hd, goInt]) (.int _ _)
        · rename_i id
          split at hl
          · rename_i es hid
            cases hl
            obtain ⟨own, hRo⟩ := hR
            obtain ⟨b, arr, h1, h2, h3, h4, h5⟩ := hRo.obj id _ hid
            cases hx with
            | mr _ b' h6 =>
              rw [h1] at h6
              cases h6
              exact Gives.same ⟨own, hRo⟩ (v' := .int .i64 (arr.size : Nat)) (by simp [Builtin.len_, run_underlying hd, goInt, getObj, Sem.run, h3]) (by rw [h4]; exact .int _ _)
          · cases hl
        · cases hl
    · cases h

theorem g_un {td : TD} {op : UnOp} {x : AV} {xv : Value} {c : AV → Option R} {r : R} (h : unK td op x c = some r) (hx : VR G x xv) : ∃ v, c v = some r ∧ ∃ v', (Op.unary op xv).run P w = .ok v' w ∧ VR G v v' := by
  unfold unK at h
  split at h
  · split at h
    · rename_i ik _
      cases x with
      | int k n =>
        simp only [asI] at h
        split at h
        · rename_i hk; subst hk; cases hx; exact ⟨_, h, _, rfl, .int _ _⟩
        · simp at h
      | _ => simp [asI] at h
    · cases h
  · split at h
    · rename_i ik _
      cases x with
      | int k n =>
        simp only [asI] at h
        split at h
        · rename_i hk; subst hk; cases hx; exact ⟨_, h, _, rfl, .int _ _⟩
        · simp at h
      | _ => simp [asI] at h
    · cases h
  · cases x with
    | bool b => cases hx; exact ⟨_, h, _, rfl, .bool _⟩
    | _ => simp [asB] at h
  · cases h

end

end Go.St
