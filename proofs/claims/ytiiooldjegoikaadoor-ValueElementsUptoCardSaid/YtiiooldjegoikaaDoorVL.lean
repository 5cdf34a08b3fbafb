/- Values lent and kept. -/
import Derived.Test.YtiiooldjegoikaaDoorVC
namespace Go.Proofs.YtiiooldjegoikaaDoor
open Go.St Go.Lib
set_option linter.unusedVariables false
set_option linter.unusedSimpArgs false

def BufT (es n : Nat) (st : Sto) (x : AV) (cells : List AV) (len : Nat) : Prop :=
  (x = .nils ∧ cells = [] ∧ len = 0) ∨ ∃ i g, n ≤ i ∧ x = .is cells len (.tip i g es) ∧ st[i]? = some (.tip g) ∧ cells.length = len * es
theorem bufT_add {es bytes n : Nat} {st : Sto} {x : AV} {acc new : List AV} {len k : Nat} {str : Bool} {y : AV} (h : BufT es n st x acc len) (hn : n ≤ st.length) (hy : tailOf str es st y = some (new, k)) (h0 : 0 < k) (hnew : new.length = k * es) (hr : room bytes (len + k) = true) :
    ∃ i g st', appL false str es bytes x y st = some (.is (acc ++ new) (len + k) (.tip i g es), st') ∧ n ≤ i ∧ st'[i]? = some (.tip g) ∧ Keeps n st st' ∧ st.length ≤ st'.length ∧ (∀ (j : Nat) (o : Ob), st[j]? = some o → (∀ g, o ≠ .tip g) → st'[j]? = some o) ∧ (acc ++ new).length = (len + k) * es := by
  unfold appL
  simp only [hy, Option.bind_some]
  have hk : ¬ k = 0 := by omega
  rcases h with ⟨rfl, rfl, rfl⟩ | ⟨i, g, hi, rfl, hst, hl⟩
  · rw [Nat.zero_add] at *
    simp only [hk, if_false, hr, if_true, Bool.false_eq_true, List.nil_append]
    exact ⟨_, _, _, rfl, hn, by simp, Keeps.app hn, by simp, fun j o h _ => by
      rw [List.getElem?_append_left (List.getElem?_eq_some_iff.1 h).1]; exact h, by rw [hnew]⟩
  · simp only [hl, true_and, hr, if_true, hst]
    refine ⟨_, _, _, rfl, hi, ?_, Keeps.set hi, by simp, fun j o h ho => ?_, by rw [List.length_append, hl, hnew, Nat.add_mul]⟩
    · rw [List.getElem?_set_self (List.getElem?_eq_some_iff.1 hst).1]
    · by_cases hij : i = j
      · subst hij
        rw [hst] at h
        cases h
        exact absurd rfl (ho g)
      · rw [List.getElem?_set_ne hij]; exact h
theorem keeps_take {n : Nat} {st st' : Sto} (hk : Keeps st.length st st') : st'.take st.length = st := by
  apply List.ext_getElem?
  intro i
  rw [List.getElem?_take]
  split
  · rename_i hi; exact hk.at_ i hi
  · rename_i hi; rw [List.getElem?_eq_none (by omega)]
theorem gcT_tip {row : List AV} {len id g es : Nat} {st st' : Sto} (hs : strips st.length row = row) (ho : olds st.length row = true) (hi : st.length ≤ id) (ht : st'[id]? = some (.tip g)) (hk : Keeps st.length st st') :
    gcT st (.ret (.is row len (.tip id g es)), st') = (.ret (.is row len (.tip st.length 0 es)), st ++ [.tip 0]) := by
  unfold gcT
  dsimp only
  rw [if_pos ⟨by rw [hs]; exact ho, hi, ht, hk.len, fun i hi => .inl (hk.at_ i hi)⟩, keeps_take (n := 0) hk, hs]
theorem strips_app (n : Nat) (a b : List AV) : strips n (a ++ b) = strips n a ++ strips n b := by
  induction a with
  | nil => rfl
  | cons x r ih => simp only [List.cons_append, strips, ih]
theorem olds_app (n : Nat) (a b : List AV) : olds n (a ++ b) = (olds n a && olds n b) := by
  induction a with
  | nil => simp [olds]
  | cons x r ih => simp only [List.cons_append, olds, ih, Bool.and_assoc]
theorem bnd_nat {d m i : Nat} {k : IntKind} (h : i ≤ m) : bnd d m (some (.int k (i : Int))) = some i := by
  unfold bnd
  simp only
  rw [if_pos (by omega)]
  simp
theorem cut_rooms {es n : Nat} {row : List AV} {i g : Nat} (hl : row.length = (n + 2) * es) : cutL es (.is row (n + 2) (.tip i g es)) none (some (.int .i64 ((n : Nat) : Int))) = some (.is row n (.cut (n + 2))) := by
  have h1 : bnd (n + 2) (n + 2) (some (.int .i64 ((n : Nat) : Int))) = some n := bnd_nat (by omega)
  have h2 : ¬ n = n + 2 := by omega
  have h3 : bnd 0 n none = some 0 := rfl
  simp only [cutL, Tok.most, h1, Option.bind_some, h3, hl, if_true, Tok.part, h2, if_false, Nat.zero_mul, List.drop_zero, Nat.sub_zero]
theorem open_rooms {es n : Nat} {row : List AV} (hl : row.length = (n + 2) * es) : cutL es (.is row n (.cut (n + 2))) none (some (.int .i64 ((n + 2 : Nat) : Int))) = some (.is row (n + 2) (.cut (n + 2))) := by
  have h1 : bnd n (n + 2) (some (.int .i64 ((n + 2 : Nat) : Int))) = some (n + 2) := bnd_nat (by omega)
  have h3 : bnd 0 (n + 2) none = some 0 := rfl
  simp only [cutL, Tok.most, h1, Option.bind_some, h3, hl, if_true, Tok.part, Nat.zero_mul, List.drop_zero, Nat.sub_zero]
theorem agg_cells (cs : List AV) : AV.cells (.agg cs) = cs := rfl
theorem sto_all {st : Sto} {id : Nat} {cs cs' : List AV} (h : st[id]? = some (.cells 0 cs 0)) (hc : cs'.all AV.isCell = true) {n : Nat} (hn : cs'.length = n) (hn' : cs.length = n) : sto n st (.mp id 0 0) (.agg cs') = some (st.set id (.cells 0 cs' 0)) := by
  have h3 : (AV.cells (.agg cs')).length = n := hn
  have h2 : cs'.length ≤ cs.length := by omega
  unfold sto
  rw [if_pos h3, agg_cells]
  simp only [stCells, h, Nat.zero_add, h2, hc, Nat.le_refl, true_and, and_self, if_true, splice, List.take_zero, List.nil_append]
  rw [List.drop_of_length_le (by omega), List.append_nil]
theorem set_mid {st : Sto} {o o' z : Ob} : ((st ++ [o]) ++ [z]).set st.length o' = (st ++ [o']) ++ [z] := by
  rw [List.append_assoc, List.set_append_right _ _ (Nat.le_refl _), List.append_assoc]
  simp
theorem get_mid {st : Sto} {o z : Ob} : ((st ++ [o]) ++ [z])[st.length]? = some o := by
  rw [List.append_assoc, List.getElem?_append_right (Nat.le_refl _)]
  simp
theorem get_last {st : Sto} {o z : Ob} : ((st ++ [o]) ++ [z])[(st ++ [o]).length]? = some z := by
  rw [List.getElem?_append_right (Nat.le_refl _)]
  simp

theorem num_spec (a : Int) (st : Sto) : CallR ap 14 [.int .i64 a] st = some (.ret (.int .i64 a), st) := by
  rw [stencillaw0_Num.call]
  exact ret_keep (stencillaw0_Num.b_eq a st) rfl rfl (Keeps.refl _ _)

/-! ### Not too deep -/
def ShalOk (ts : Va) : Prop := ∀ (n : Nat) (S : Sto) (cs : List AV) (p : AV) (i L d : Nat), S[n]? = some (.cells 0 cs 0) → cs[5]? = some p → Fr ts p i L → ts.sz ≤ 1050000 → 1 ≤ d → d ≤ 4096 →
  ∃ b, stencillaw0_value.p110100 ((d : Nat) : Int) n ((i : Nat) : Int) S = some ⟨.ret (.bool b), none, S⟩
theorem shal_of {h : Hd} {parts : Va} {cs : List AV} (H : ShalOk parts) (h1 : One h parts cs) (hs : parts.sz ≤ 1050000) {d : Nat} (hd : d ≤ 4096) (st : Sto) : ∃ b, CallR ap 33 [.agg cs, .int .i64 ((d : Nat) : Int)] st = some (.ret (.bool b), st) := by
  have hall := h1.all
  have hc : AV.cells (.agg cs) = cs := rfl
  obtain ⟨a, p, hcs, hIn, ha, hp⟩ := h1
  suffices h : ∃ b, stencillaw0_value.b (.agg cs) ((d : Nat) : Int) st = some ⟨.ret (.bool b), none, st ++ [Ob.cells 0 cs 0]⟩ by
    obtain ⟨b, h⟩ := h
    exact ⟨b, by rw [stencillaw0_value.call]; exact ret_keep h rfl rfl (Keeps.app (Nat.le_refl _))⟩
  rw [stencillaw0_value.b_eq, hc, if_pos hall]
  by_cases h0 : d = 0
  · subst h0
    exact ⟨false, by simp⟩
  · have h0' : ¬ ((d : Int) = 0) := by omega
    simp only [h0', decide_false, cond_false]
    exact H st.length (st ++ [Ob.cells 0 cs 0]) cs p 0 parts.len d (by simp) (by rw [hcs]; rfl) (Fr.of hp hs) hs (by omega) hd
theorem shal_all (ts : Va) : ShalOk ts := by
  induction ts with
  | nil =>
    intro n S cs p i L d hS hp hF hs h1 hd
    obtain ⟨hL, hiL, _, _, _, _⟩ := hF
    simp only [Va.len, Nat.add_zero] at hiL
    subst hiL
    have g5 : ld false 1 S (.mp n 0 5) = some p := m_get hS hp
    rw [stencillaw0_value.p110100_eq]
    exact ⟨true, by simp only [g5, Option.bind_some, hL, Int.lt_irrefl, decide_false, cond_false]⟩
  | cons h parts rest ihp ihr =>
    intro n S cs p i L d hS hp hF hs h1 hd
    obtain ⟨hL, hiL, hL2, hpc, hpc2, hrow⟩ := hF
    simp only [Va.len] at hiL
    simp only [Va.sz] at hs
    obtain ⟨row, tok, rfl, hr⟩ : ∃ row tok, p = .is row L tok ∧ Row (.cons h parts rest) (row.drop (i * 6)) := by
      rcases hrow with hrow | hrow
      · cases hrow
      · exact hrow
    obtain ⟨a, pl, hIn, hna, hpl, hr', hrl, hia⟩ := row_at hr
    have hia := hia L tok (by omega)
    have g5 : ld false 1 S (.mp n 0 5) = some (.is row L tok) := m_get hS hp
    have hlt : (((i : Nat) : Int) < ((L : Nat) : Int)) := by omega
    have w1 : IntKind.wrap .i64 (((i : Nat) : Int) + 1) = ((i + 1 : Nat) : Int) := w64 _ (by omega) (by omega)
    have w2 : IntKind.wrap .i64 (((d : Nat) : Int) - 1) = ((d - 1 : Nat) : Int) := w64 _ (by omega) (by omega)
    have l6 : ld true 6 S (.ip (hcells h a pl)) = some (.agg (hcells h a pl)) := rfl
    obtain ⟨b, hb⟩ := shal_of ihp (h := h) (cs := hcells h a pl) ⟨a, pl, rfl, hIn, hna, hpl⟩ (by omega) (d := d - 1) (by omega) S
    rw [stencillaw0_value.p110100_eq]
    simp only [g5, Option.bind_some, lenL, hlt, decide_true, cond_true, hia, l6, w2, hb, Out.on, asB, w1]
    cases b with
    | false => exact ⟨false, rfl⟩
    | true => exact ihr n S cs (.is row L tok) (i + 1) L d hS hp ⟨rfl, by omega, hL2, rfl, rfl, .inr ⟨row, tok, rfl, hr'⟩⟩ (by omega) h1 hd
theorem shallow_spec {h : Hd} {parts : Va} {cs : List AV} (h1 : One h parts cs) (hs : parts.sz ≤ 1050000) (st : Sto) : ∃ b, CallR ap 9 [.agg cs] st = some (.ret (.bool b), st) := by
  have hc : AV.cells (.agg cs) = cs := rfl
  have hcs6 : cs.length = 6 := by obtain ⟨a, p, rfl, _⟩ := h1; rfl
  have hld : ld true 6 (st ++ [Ob.cells 0 cs 0]) (.mp st.length 0 0) = some (.agg cs) := m_all (g := 0) (fz := 0) (by simp) hcs6
  obtain ⟨b, hb⟩ := shal_of (shal_all parts) h1 hs (d := 4096) (by omega) (st ++ [Ob.cells 0 cs 0])
  refine ⟨b, ?_⟩
  rw [stencillaw0_ShallowValue.call]
  refine ret_keep (st' := st ++ [Ob.cells 0 cs 0]) ?_ rfl rfl (Keeps.app (Nat.le_refl _))
  rw [stencillaw0_ShallowValue.b_eq, hc, if_pos h1.all]
  rw [show ((4096 : Nat) : Int) = 4096 from rfl] at hb
  simp only [hld, Option.bind_some, hb, Out.on]

/-! ### Lent -/
def OkV : Va → Prop
  | .nil => True
  | .cons h parts rest => In h.n ∧ OkV parts ∧ OkV rest
theorem Row.ok : ∀ (ts : Va) (row : List AV), Row ts row → OkV ts := by
  intro ts
  induction ts with
  | nil => intro row _; trivial
  | cons h parts rest ihp ihr =>
    rintro row ⟨a, p, r, _, h1, _, h2, h3⟩
    refine ⟨h1, ?_, ihr _ h3⟩
    rcases h2 with ⟨h2, _⟩ | ⟨prow, tok, _, h2⟩
    · rw [len_nil h2]; trivial
    · exact ihp _ h2
theorem VaV.ok {ts : Va} {v : AV} (h : VaV ts v) : OkV ts := by
  rcases h with ⟨h, _⟩ | ⟨row, tok, _, h⟩
  · rw [len_nil h]; trivial
  · exact Row.ok _ _ h

def roomN : List AV := [.str ⟨#[126, 114, 111, 111, 109]⟩, .str ⟨#[126, 98, 101, 104, 105, 110, 100]⟩]
def roomV : List AV := [.int .i64 (-7), .bool false, .int .i64 0, .str ⟨#[]⟩, .nils, .nils]
def zeroV : List AV := [.int .i64 0, .bool false, .int .i64 0, .str ⟨#[]⟩, .nils, .nils]
def lendN (l : List ByteArray) : AV := .is (ncells l ++ roomN) l.length (.cut (l.length + 2))
def lendRow : Va → List AV
  | .nil => []
  | .cons h parts rest => hcells h (lendN h.names) (.is (lendRow parts ++ (roomV ++ roomV)) parts.len (.cut (parts.len + 2))) ++ lendRow rest
/-- A row of values lent. -/
def lendL (ts : Va) : AV := .is (lendRow ts ++ (roomV ++ roomV)) ts.len (.cut (ts.len + 2))
/-- A value lent. -/
def lendV (h : Hd) (parts : Va) : List AV := hcells h (lendN h.names) (lendL parts)

theorem lendN_nam (l : List ByteArray) : NamV l (lendN l) := .inr ⟨_, _, rfl, by simp [Tok.most, ncells_len, roomN]⟩
theorem lendRow_row (ts : Va) (ho : OkV ts) : ∀ r, Row ts (lendRow ts ++ r) := by
  induction ts with
  | nil => intro r; trivial
  | cons h parts rest ihp ihr => exact fun r => ⟨lendN h.names, _, lendRow rest ++ r, by rw [lendRow, List.append_assoc], ho.1, lendN_nam _, .inr ⟨_, _, rfl, ihp ho.2.1 _⟩, ihr ho.2.2 r⟩
theorem lendL_va (ts : Va) (ho : OkV ts) : VaV ts (lendL ts) := .inr ⟨_, _, rfl, lendRow_row ts ho _⟩
theorem lendV_one (h : Hd) (parts : Va) (hn : In h.n) (ho : OkV parts) : One h parts (lendV h parts) := ⟨_, _, rfl, hn, lendN_nam _, lendL_va _ ho⟩
theorem lendRow_len (ts : Va) : (lendRow ts).length = ts.len * 6 := by
  induction ts with
  | nil => rfl
  | cons h parts rest ihp ihr => simp only [lendRow, List.length_append, ihr, Va.len, hcells, List.length_cons, List.length_nil]; omega

theorem strip_lendN (n : Nat) (l : List ByteArray) : (lendN l).strip n = lendN l := by
  simp only [lendN, AV.strip, strips_app, strips_ncells, Tok.strip]
  rfl
theorem old_lendN (n : Nat) (l : List ByteArray) : (lendN l).old n = true := by
  simp only [lendN, AV.old, olds_app, olds_ncells, Tok.old]
  rfl
theorem strips_hcells (n : Nat) (h : Hd) (a p : AV) : strips n (hcells h a p) = hcells h (a.strip n) (p.strip n) := rfl
theorem olds_hcells (n : Nat) (h : Hd) (a p : AV) : olds n (hcells h a p) = (a.old n && p.old n) := by simp [hcells, olds, AV.old]
theorem strips_lendRow (n : Nat) (ts : Va) : strips n (lendRow ts) = lendRow ts := by
  induction ts with
  | nil => rfl
  | cons h parts rest ihp ihr =>
    simp only [lendRow, strips_app, strips_hcells, strip_lendN, AV.strip, ihp, ihr, Tok.strip]
    rfl
theorem olds_lendRow (n : Nat) (ts : Va) : olds n (lendRow ts) = true := by
  induction ts with
  | nil => rfl
  | cons h parts rest ihp ihr =>
    simp only [lendRow, olds_app, olds_hcells, old_lendN, AV.old, ihp, ihr, Tok.old]
    rfl
theorem strip_lendL (n : Nat) (ts : Va) : (lendL ts).strip n = lendL ts := by
  simp only [lendL, AV.strip, strips_app, strips_lendRow, Tok.strip]
  rfl
theorem old_lendL (n : Nat) (ts : Va) : (lendL ts).old n = true := by
  simp only [lendL, AV.old, olds_app, olds_lendRow, Tok.old]
  rfl

theorem copyTexts_spec {l : List ByteArray} {a : AV} (ha : NamV l a) (hs : nsz l ≤ 1050000) (st : Sto) :
    (l.length = 0 ∧ CallR ap 44 [a] st = some (.ret (.is [] 0 .full), st)) ∨
    (0 < l.length ∧ CallR ap 44 [a] st = some (.ret (.is (ncells l) l.length (.tip st.length 0 1)), st ++ [.tip 0])) := by
  have hl := nsz_len l
  have hroom : room 16 l.length = true := by simp [room]; omega
  have h0 : (litS false 0 1 (fillA (fun i => some (i * 1, 1)) [] []) st) = some (.is [] 0 .full, st) := rfl
  by_cases hz : l.length = 0
  · left
    refine ⟨hz, ?_⟩
    rw [stencillaw0_CopyTexts.call, stencillaw0_CopyTexts.b_eq, h0]
    simp only [Option.bind_some, appL, ha.tail, hz, if_true]
    show some (gcT st (.ret (.is [] 0 .full), st)) = _
    unfold gcT
    rw [gc_keep rfl rfl (Keeps.refl _ _)]
  · right
    refine ⟨by omega, ?_⟩
    rw [stencillaw0_CopyTexts.call, stencillaw0_CopyTexts.b_eq, h0]
    simp only [Option.bind_some, appL, ha.tail, hz, if_false, Nat.zero_add, hroom, List.length_nil, Nat.zero_mul, and_self, if_true, Bool.false_eq_true, List.nil_append]
    rw [gcT_tip (strips_ncells _ _) (olds_ncells _ _) (Nat.le_refl _) (by simp) (Keeps.app (Nat.le_refl _))]

theorem roomN_lit (st : Sto) : (litS false 2 1 (fillA (fun i => some (i * 1, 1)) [.str ⟨#[]⟩, .str ⟨#[]⟩] [(0, (.str ⟨#[126, 114, 111, 111, 109]⟩)), (1, (.str ⟨#[126, 98, 101, 104, 105, 110, 100]⟩))]) st) = some (.is roomN 2 .full, st) := rfl
theorem roomV_agg : (aggA (fillA (fun i => ([(0, 1), (1, 1), (2, 1), (3, 1), (4, 1), (5, 1)] : List (Nat × Nat))[i]?) [.int .i64 0, .bool false, .int .i64 0, .str ⟨#[]⟩, .nils, .nils] [(0, (.int .i64 (-7)))])) = some (.agg roomV) := rfl

theorem lendTexts_spec {l : List ByteArray} {a : AV} (ha : NamV l a) (hs : nsz l ≤ 1050000) (st : Sto) : CallR ap 34 [a] st = some (.ret (lendN l), st) := by
  have hl := nsz_len l
  have hc := ncells_len l
  have hroom : ∀ n, n ≤ l.length + 2 → room 16 n = true := fun n hn => by simp [room]; omega
  have ht : ∀ s : Sto, tailOf false 1 s (.is roomN 2 .full) = some (roomN, 2) := fun _ => rfl
  suffices h : ∃ st', stencillaw0_LendTexts.b a st = some ⟨.ret (lendN l), none, st'⟩ ∧ Keeps st.length st st' by
    obtain ⟨st', h1, h2⟩ := h
    rw [stencillaw0_LendTexts.call]
    exact ret_keep h1 (strip_lendN _ _) (old_lendN _ _) h2
  rw [stencillaw0_LendTexts.b_eq]
  rcases copyTexts_spec ha hs st with ⟨h0, h1⟩ | ⟨h0, h1⟩
  · obtain rfl := List.eq_nil_of_length_eq_zero h0
    have ha' : appL false false 1 16 (.is [] 0 .full) (.is roomN 2 .full) st = some (.is roomN (0 + 2) (.tip st.length 0 1), st ++ [.tip 0]) := by
      simp only [appL, ht, Option.bind_some, show ¬ (2 = 0) by omega, if_false, hroom (0 + 2) (by simp), List.length_nil, Nat.zero_mul, and_self, if_true, Bool.false_eq_true, List.nil_append]
    have hcut := cut_rooms (es := 1) (n := 0) (row := roomN) (i := st.length) (g := 0) rfl
    simp only [h1, Option.bind_some, Out.on, roomN_lit, ha', ha.len, List.length_nil, hcut]
    exact ⟨_, rfl, Keeps.app (Nat.le_refl _)⟩
  · have ha' : appL false false 1 16 (.is (ncells l) l.length (.tip st.length 0 1)) (.is roomN 2 .full) (st ++ [.tip 0]) = some (.is (ncells l ++ roomN) (l.length + 2) (.tip st.length (0 + 1) 1), (st ++ [Ob.tip 0]).set st.length (Ob.tip (0 + 1))) := by
      have hg : (st ++ [Ob.tip 0])[st.length]? = some (.tip 0) := by simp
      simp only [appL, ht, Option.bind_some, hc, Nat.mul_one, hroom (l.length + 2) (Nat.le_refl _), and_self, if_true, hg]
    have hcut := cut_rooms (es := 1) (n := l.length) (row := ncells l ++ roomN) (i := st.length) (g := 0 + 1) (by rw [List.length_append, hc]; simp [roomN])
    simp only [h1, Option.bind_some, Out.on, roomN_lit, ha', ha.len, hcut]
    exact ⟨_, rfl, (Keeps.app (Nat.le_refl _)).trans (Keeps.set (Nat.le_refl _))⟩

def LendOk (ts : Va) : Prop := ∀ (row : List AV) (n i : Nat) (tok : Tok) (st : Sto) (nn : Nat) (x : AV) (pre : List AV), Row ts (row.drop (i * 6)) → n = i + ts.len → ts.sz ≤ 1050000 → n ≤ 1050000 → nn ≤ st.length → BufT 6 nn st x pre i →
  ∃ st', stencillaw0_LendValues.p110100 (.is row n tok) x ((i : Nat) : Int) st = some ⟨.ret (.is ((pre ++ lendRow ts) ++ (roomV ++ roomV)) n (.cut (n + 2))), none, st'⟩ ∧ Keeps nn st st'

theorem tail_rooms (st : Sto) : tailOf false 6 st (.is (roomV ++ roomV) 2 .full) = some (roomV ++ roomV, 2) := rfl
theorem roomsV_lit (st : Sto) : (litS false 2 6 (fillA (fun i => some (i * 6, 6)) [.int .i64 0, .bool false, .int .i64 0, .str ⟨#[]⟩, .nils, .nils, .int .i64 0, .bool false, .int .i64 0, .str ⟨#[]⟩, .nils, .nils] [(0, .agg roomV), (1, .agg roomV)]) st) = some (.is (roomV ++ roomV) 2 .full, st) := rfl

/-- The end of the lending: two rooms behind. -/
theorem lend_end {n : Nat} {t0 : AV} {st : Sto} {nn : Nat} {x : AV} {pre : List AV} (hl0 : lenL t0 = some n) (hb : n ≤ 1050000) (hnn : nn ≤ st.length) (hx : BufT 6 nn st x pre n) :
    ∃ st', stencillaw0_LendValues.p110100 t0 x ((n : Nat) : Int) st = some ⟨.ret (.is (pre ++ (roomV ++ roomV)) n (.cut (n + 2))), none, st'⟩ ∧ Keeps nn st st' := by
  obtain ⟨i, g, st', h1, h2, h3, h4, h5, h6, h7⟩ := bufT_add (bytes := 88) (str := false) hx hnn (tail_rooms st) (by omega) rfl (by simp [room]; omega)
  refine ⟨st', ?_, h4⟩
  rw [stencillaw0_LendValues.p110100_eq]
  simp only [hl0, Option.bind_some, Int.lt_irrefl, decide_false, cond_false, roomV_agg, roomsV_lit, h1, cut_rooms h7]

theorem lend_of {ts : Va} (H : LendOk ts) {v : AV} (hv : VaV ts v) (hs : ts.sz ≤ 1050000) (st : Sto) : CallR ap 35 [v] st = some (.ret (lendL ts), st) := by
  suffices h : ∃ st', stencillaw0_LendValues.b v st = some ⟨.ret (lendL ts), none, st'⟩ ∧ Keeps st.length st st' by
    obtain ⟨st', h1, h2⟩ := h
    rw [stencillaw0_LendValues.call]
    exact ret_keep h1 (strip_lendL _ _) (old_lendL _ _) h2
  rw [stencillaw0_LendValues.b_eq]
  rcases hv with ⟨h0, rfl⟩ | ⟨row, tok, rfl, hr⟩
  · obtain rfl := len_nil h0
    exact lend_end (n := 0) (pre := []) rfl (by omega) (Nat.le_refl _) (.inl ⟨rfl, rfl, rfl⟩)
  · have hl := len_sz ts
    have := H row ts.len 0 tok st st.length .nils [] (by simpa using hr) (by omega) hs (by omega) (Nat.le_refl _) (.inl ⟨rfl, rfl, rfl⟩)
    simpa [lendL] using this

/-- Two fields of a copy turned, the copy handed back. -/
theorem lendV_of {h : Hd} {parts : Va} {cs : List AV} (H : LendOk parts) (h1 : One h parts cs) (hs : nsz h.names ≤ 1050000) (hs2 : parts.sz ≤ 1050000) (st : Sto) :
    CallR ap 10 [.agg cs] st = some (.ret (.agg (lendV h parts)), st) := by
  have hall := h1.all
  obtain ⟨a, p, rfl, hIn, ha, hp⟩ := h1
  suffices h : ∃ st', stencillaw0_LendValue.b (.agg (hcells h a p)) st = some ⟨.ret (.agg (lendV h parts)), none, st'⟩ ∧ Keeps st.length st st' by
    obtain ⟨st', h1, h2⟩ := h
    rw [stencillaw0_LendValue.call]
    refine ret_keep h1 ?_ ?_ h2
    · simp only [AV.strip, lendV, strips_hcells, strip_lendN, strip_lendL]
    · simp only [AV.old, lendV, olds_hcells, old_lendN, old_lendL, Bool.and_self]
  have s1 : sto 1 ((st ++ [Ob.cells 0 (hcells h a p) 0]) ++ [Ob.cells 0 zeroV 0]) (.mp st.length 0 4) (lendN h.names) = some ((st ++ [Ob.cells 0 (hcells h (lendN h.names) p) 0]) ++ [Ob.cells 0 zeroV 0]) := by
    rw [sto_at get_mid (by simp [hcells]) rfl rfl, set_mid]
    rfl
  have s2 : sto 1 ((st ++ [Ob.cells 0 (hcells h (lendN h.names) p) 0]) ++ [Ob.cells 0 zeroV 0]) (.mp st.length 0 5) (lendL parts) = some ((st ++ [Ob.cells 0 (lendV h parts) 0]) ++ [Ob.cells 0 zeroV 0]) := by
    rw [sto_at get_mid (by simp [hcells]) rfl rfl, set_mid]
    rfl
  have s3 := sto_all (st := (st ++ [Ob.cells 0 (lendV h parts) 0]) ++ [Ob.cells 0 zeroV 0]) (cs' := lendV h parts) (n := 6) get_last rfl rfl rfl
  have e1 : (st ++ [Ob.cells 0 (hcells h a p) 0]).length = (st ++ [Ob.cells 0 (lendV h parts) 0]).length := by simp
  have ez : [AV.int .i64 0, .bool false, .int .i64 0, .str ⟨#[]⟩, .nils, .nils] = zeroV := rfl
  rw [stencillaw0_LendValue.b_eq, agg_cells, if_pos hall, e1, ez]
  simp only [m_get (x := a) (n := 4) (cs := hcells h a p) get_mid rfl, Option.bind_some, lendTexts_spec ha hs, Out.on, s1, m_get (x := p) (n := 5) (cs := hcells h (lendN h.names) p) get_mid rfl, lend_of H hp hs2, s2,
    m_all (n := 6) (cs := lendV h parts) (st := (st ++ [Ob.cells 0 (lendV h parts) 0]) ++ [Ob.cells 0 zeroV 0]) get_mid rfl, s3]
  rw [m_all (n := 6) (cs := lendV h parts) (List.getElem?_set_self (by simp)) rfl]
  refine ⟨_, rfl, ?_⟩
  rw [List.append_assoc]
  exact (Keeps.app (Nat.le_refl _)).trans (Keeps.set (by simp))

theorem lit_val {cs : List AV} (hc : cs.all AV.isCell = true) (hl : cs.length = 6) (st : Sto) : (litS false 1 6 (fillA (fun i => some (i * 6, 6)) [.int .i64 0, .bool false, .int .i64 0, .str ⟨#[]⟩, .nils, .nils] [(0, .agg cs)]) st) = some (.is cs 1 .full, st) := by
  have h1 : (AV.cells (.agg cs)) = cs := rfl
  simp only [fillA, h1, hl, hc, Nat.zero_mul, Nat.zero_add, List.length_cons, List.length_nil, Nat.le_refl, and_self, if_true, litS, Option.bind_some, Bool.false_eq_true, if_false, splice, List.take_zero, List.nil_append]
  simp
theorem tail_val {cs : List AV} (hl : cs.length = 6) (st : Sto) : tailOf false 6 st (.is cs 1 .full) = some (cs, 1) := by
  simp [tailOf, rowOf, hl]

theorem lend_all (ts : Va) : LendOk ts := by
  induction ts with
  | nil =>
    intro row n i tok st nn x pre hr hn hs hb hnn hx
    simp only [Va.len, Nat.add_zero] at hn
    subst hn
    obtain ⟨st', h1, h2⟩ := lend_end (t0 := .is row n tok) rfl hb hnn hx
    exact ⟨st', by simpa [lendRow] using h1, h2⟩
  | cons h parts rest ihp ihr =>
    intro row n i tok st nn x pre hr hn hs hb hnn hx
    simp only [Va.len] at hn
    simp only [Va.sz] at hs
    obtain ⟨a, pl, hIn, hna, hpl, hr', hrl, hia⟩ := row_at hr
    have hia := hia n tok (by omega)
    have wi : IntKind.wrap .i64 ((i : Int) + 1) = ((i + 1 : Nat) : Int) := w64 _ (by omega) (by omega)
    have hlt : (((i : Nat) : Int) < ((n : Nat) : Int)) := by omega
    have hcell : (lendV h parts).all AV.isCell = true := rfl
    have l6 : ld true 6 st (.ip (hcells h a pl)) = some (.agg (hcells h a pl)) := rfl
    obtain ⟨j, g, s1, h1, h2, h3, h4, h5, h6, h7⟩ := bufT_add (bytes := 88) (str := false) hx hnn (tail_val (cs := lendV h parts) rfl st) (by omega) rfl (by simp [room]; omega)
    obtain ⟨st', m1, m2⟩ := ihr row n (i + 1) tok s1 nn _ _ hr' (by omega) (by omega) hb (Nat.le_trans hnn h5) (.inr ⟨j, g, h2, rfl, h3, h7⟩)
    refine ⟨st', ?_, h4.trans m2⟩
    rw [stencillaw0_LendValues.p110100_eq]
    simp only [lenL, Option.bind_some, hlt, decide_true, cond_true, hia, l6, lendV_of ihp (cs := hcells h a pl) ⟨a, pl, rfl, hIn, hna, hpl⟩ (show nsz h.names ≤ 1050000 by omega) (show parts.sz ≤ 1050000 by omega), Out.on, lit_val hcell rfl, h1, wi]
    rw [m1]
    simp [lendRow, lendV, lendL]

theorem lendValue_spec {h : Hd} {parts : Va} {cs : List AV} (h1 : One h parts cs) (hs : (Va.cons h parts .nil).sz ≤ 1050000) (st : Sto) : CallR ap 10 [.agg cs] st = some (.ret (.agg (lendV h parts)), st) := by
  simp only [Va.sz] at hs
  exact lendV_of (lend_all parts) h1 (by omega) (by omega) st

/-! ### Texts held against each other -/
open Classical in
theorem sameTexts_loop {l1 l2 : List ByteArray} {v w : AV} (hv : NamV l1 v) (hw : NamV l2 w) (hl : l1.length = l2.length) (hs : l1.length ≤ 1050000) (st : Sto) :
    ∀ (s1 s2 p1 p2 : List ByteArray), l1 = p1 ++ s1 → l2 = p2 ++ s2 → p1.length = p2.length → stencillaw0_SameTexts.p110100 v w ((p1.length : Nat) : Int) st = some ⟨.ret (.bool (decide (s1 = s2))), none, st⟩ := by
  intro s1
  induction s1 with
  | nil =>
    intro s2 p1 p2 h1 h2 hp
    have : s2 = [] := List.eq_nil_of_length_eq_zero (by rw [h1, h2] at hl; simp at hl; omega)
    subst this
    rw [stencillaw0_SameTexts.p110100_eq]
    rw [List.append_nil] at h1
    simp only [hv.len, Option.bind_some, h1, Int.lt_irrefl, decide_false, cond_false, decide_true]
  | cons x r ih =>
    intro s2 p1 p2 h1 h2 hp
    cases s2 with
    | nil => rw [h1, h2] at hl; simp at hl; omega
    | cons y t =>
      have hlt : (((p1.length : Nat) : Int) < ((l1.length : Nat) : Int)) := by rw [h1]; simp; omega
      have hlen : p1.length < l1.length := by rw [h1]; simp
      have hwr : IntKind.wrap .i64 (((p1.length : Nat) : Int) + 1) = (((p1 ++ [x]).length : Nat) : Int) := by
        rw [w64 (p1.length + 1) (by omega) (by omega)]
        simp
      have nxt := ih t (p1 ++ [x]) (p2 ++ [y]) (by rw [h1]; simp) (by rw [h2]; simp) (by simp [hp])
      have i1 := nam_at (pre := p1) (suf := r) (x := x) (v := v) (by rw [← h1]; exact hv) (i := ((p1.length : Nat) : Int)) rfl
      have i2 := nam_at (pre := p2) (suf := t) (x := y) (v := w) (by rw [← h2]; exact hw) (i := ((p1.length : Nat) : Int)) (by omega)
      rw [stencillaw0_SameTexts.p110100_eq]
      simp only [hv.len, Option.bind_some, hlt, decide_true, cond_true, i1, i2, ld1, asS, hwr, nxt]
      by_cases hxy : x = y
      · subst hxy
        simp
      · simp [hxy]
open Classical in
theorem sameTexts_spec {l1 l2 : List ByteArray} {v w : AV} (hv : NamV l1 v) (hw : NamV l2 w) (hs : l1.length ≤ 1050000) (st : Sto) : CallR ap 50 [v, w] st = some (.ret (.bool (decide (l1 = l2))), st) := by
  rw [stencillaw0_SameTexts.call]
  refine ret_keep ?_ rfl rfl (Keeps.refl _ _)
  rw [stencillaw0_SameTexts.b_eq]
  have c : (((l1.length : Nat) : Int) = ((l2.length : Nat) : Int)) ↔ l1.length = l2.length := by omega
  simp only [hv.len, hw.len, Option.bind_some, c]
  by_cases hl : l1.length = l2.length
  · have := sameTexts_loop hv hw hl hs st l1 l2 [] [] rfl rfl rfl
    simp only [List.length_nil, Int.natCast_zero] at this
    simp only [hl, decide_true, Bool.not_true, cond_false, this]
  · have : l1 ≠ l2 := fun e => hl (by rw [e])
    simp only [hl, this, decide_false, Bool.not_false, cond_true]

theorem eqB (a b c : Bool) (f : List FK) : eqV .bool f c (.bool a) (.bool b) = some (a == b) := rfl

theorem sameNil_spec (st : Sto) : CallR ap 51 [.nils, .nils] st = some (.ret (.bool true), st) := by
  rw [stencillaw0_SameValues.call]
  refine ret_keep ?_ rfl rfl (Keeps.refl _ _)
  rw [stencillaw0_SameValues.b_eq, stencillaw0_SameValues.p110100_eq]
  rfl

theorem sameRoom_spec (st : Sto) : CallR ap 31 [.agg roomV, .agg roomV] st = some (.ret (.bool true), st) := by
  have hc : roomV.all AV.isCell = true := rfl
  have a0 := fun n x (h : roomV[n]? = some x) => m_get (st := (st ++ [Ob.cells 0 roomV 0]) ++ [Ob.cells 0 roomV 0]) (x := x) (n := n) (g := 0) (fz := 0) get_mid h
  have b0 := fun n x (h : roomV[n]? = some x) => m_get (st := (st ++ [Ob.cells 0 roomV 0]) ++ [Ob.cells 0 roomV 0]) (x := x) (n := n) (g := 0) (fz := 0) get_last h
  have hn : NamV [] .nils := .inl ⟨rfl, rfl⟩
  rw [stencillaw0_SameValue.call]
  refine ret_keep (st' := (st ++ [Ob.cells 0 roomV 0]) ++ [Ob.cells 0 roomV 0]) ?_ rfl rfl (by rw [List.append_assoc]; exact Keeps.app (Nat.le_refl _))
  rw [stencillaw0_SameValue.b_eq, agg_cells, if_pos hc, if_pos hc]
  simp only [a0 0 _ rfl, b0 0 _ rfl, a0 1 _ rfl, b0 1 _ rfl, a0 2 _ rfl, b0 2 _ rfl, a0 3 _ rfl, b0 3 _ rfl, a0 4 _ rfl, b0 4 _ rfl, a0 5 _ rfl, b0 5 _ rfl, Option.bind_some, asS, asI, eqB, beq_self_eq_true, if_true, decide_true, cond_true, sameTexts_spec hn hn (by simp), Out.on, asB, sameNil_spec]

theorem keptTexts_spec {l : List ByteArray} {a : AV} (ha : NamV l a) (hs : nsz l ≤ 1050000) (st : Sto) : CallR ap 40 [lendN l, a] st = some (.ret (.bool true), st) := by
  have hl := nsz_len l
  have hc := ncells_len l
  have hlen : (ncells l ++ roomN).length = (l.length + 2) * 1 := by rw [List.length_append, hc]; simp [roomN]
  have hw : IntKind.wrap .i64 (((l.length : Nat) : Int) + 2) = ((l.length + 2 : Nat) : Int) := w64 _ (by omega) (by omega)
  have hw1 : IntKind.wrap .i64 (((l.length : Nat) : Int) + 1) = ((l.length + 1 : Nat) : Int) := w64 _ (by omega) (by omega)
  have hcut : cutL 1 (lendN l) none (some (.int .i64 ((l.length + 2 : Nat) : Int))) = some (.is (ncells l ++ roomN) (l.length + 2) (.cut (l.length + 2))) := open_rooms hlen
  have i0 : ia 1 (.is (ncells l ++ roomN) (l.length + 2) (.cut (l.length + 2))) (.int .i64 ((l.length : Nat) : Int)) = some (.ip [.str ⟨#[126, 114, 111, 111, 109]⟩]) := by
    have h1 : (l.length + 1) * 1 ≤ (ncells l ++ roomN).length := by rw [hlen]; omega
    simp only [ia, idx_nat (show l.length < l.length + 2 by omega), Option.bind_some, h1, if_true]
    rw [Nat.mul_one, show List.drop l.length (ncells l ++ roomN) = List.drop (ncells l).length (ncells l ++ roomN) by rw [hc], List.drop_left]
    rfl
  have i1 : ia 1 (.is (ncells l ++ roomN) (l.length + 2) (.cut (l.length + 2))) (.int .i64 ((l.length + 1 : Nat) : Int)) = some (.ip [.str ⟨#[126, 98, 101, 104, 105, 110, 100]⟩]) := by
    have h1 : (l.length + 1 + 1) * 1 ≤ (ncells l ++ roomN).length := by rw [hlen]; omega
    simp only [ia, idx_nat (show l.length + 1 < l.length + 2 by omega), Option.bind_some, h1, if_true]
    rw [Nat.mul_one, show List.drop (l.length + 1) (ncells l ++ roomN) = List.drop ((ncells l).length + 1) (ncells l ++ roomN) by rw [hc], ← List.drop_drop, List.drop_left]
    rfl
  rw [stencillaw0_KeptTexts.call]
  refine ret_keep ?_ rfl rfl (Keeps.refl _ _)
  rw [stencillaw0_KeptTexts.b_eq]
  simp only [(lendN_nam l).len, ha.len, Option.bind_some, hw, hw1, hcut, sameTexts_spec (lendN_nam l) ha (by omega), decide_true, Out.on, guardT, gOn, cond_true, i0, i1, ld1, asS]

def KeptOk (ts : Va) : Prop := ∀ (row row' : List AV) (n i : Nat) (tok tok' : Tok) (st : Sto), (∃ r, row'.drop (i * 6) = lendRow ts ++ r) → Row ts (row.drop (i * 6)) → n = i + ts.len → ts.sz ≤ 1050000 → n ≤ 1050000 →
  stencillaw0_KeptValues.p1110100 (.is row' n tok') (.is row n tok) ((i : Nat) : Int) st = some ⟨.ret (.bool true), none, st⟩

theorem kept_of {ts : Va} (H : KeptOk ts) {v : AV} (hv : VaV ts v) (hs : ts.sz ≤ 1050000) (st : Sto) : CallR ap 41 [lendL ts, v] st = some (.ret (.bool true), st) := by
  have hl := len_sz ts
  have hc := lendRow_len ts
  have hlen : (lendRow ts ++ (roomV ++ roomV)).length = (ts.len + 2) * 6 := by rw [List.length_append, hc]; simp [roomV]; omega
  have hw : IntKind.wrap .i64 (((ts.len : Nat) : Int) + 2) = ((ts.len + 2 : Nat) : Int) := w64 _ (by omega) (by omega)
  have hw1 : IntKind.wrap .i64 (((ts.len : Nat) : Int) + 1) = ((ts.len + 1 : Nat) : Int) := w64 _ (by omega) (by omega)
  have hcut : cutL 6 (lendL ts) none (some (.int .i64 ((ts.len + 2 : Nat) : Int))) = some (.is (lendRow ts ++ (roomV ++ roomV)) (ts.len + 2) (.cut (ts.len + 2))) := open_rooms hlen
  have i0 : ia 6 (.is (lendRow ts ++ (roomV ++ roomV)) (ts.len + 2) (.cut (ts.len + 2))) (.int .i64 ((ts.len : Nat) : Int)) = some (.ip roomV) := by
    have h1 : (ts.len + 1) * 6 ≤ (lendRow ts ++ (roomV ++ roomV)).length := by rw [hlen]; omega
    simp only [ia, idx_nat (show ts.len < ts.len + 2 by omega), Option.bind_some, h1, if_true]
    rw [← hc, List.drop_left]
    rfl
  have i1 : ia 6 (.is (lendRow ts ++ (roomV ++ roomV)) (ts.len + 2) (.cut (ts.len + 2))) (.int .i64 ((ts.len + 1 : Nat) : Int)) = some (.ip roomV) := by
    have h1 : (ts.len + 1 + 1) * 6 ≤ (lendRow ts ++ (roomV ++ roomV)).length := by rw [hlen]; omega
    simp only [ia, idx_nat (show ts.len + 1 < ts.len + 2 by omega), Option.bind_some, h1, if_true]
    rw [show (ts.len + 1) * 6 = (lendRow ts).length + 6 by rw [hc]; omega, ← List.drop_drop, List.drop_left]
    rfl
  have ldr : ∀ s : Sto, ld true 6 s (.ip roomV) = some (.agg roomV) := fun _ => rfl
  have hL : lenL (lendL ts) = some ts.len := rfl
  rw [stencillaw0_KeptValues.call]
  refine ret_keep ?_ rfl rfl (Keeps.refl _ _)
  rw [stencillaw0_KeptValues.b_eq]
  simp only [hL, hv.len, Option.bind_some, hw, hw1, hcut, decide_true, Bool.not_true, cond_false, i0, i1, ldr, roomV_agg, sameRoom_spec, Out.on, asB, stencillaw0_KeptValues.p1101_eq]
  rcases hv with ⟨h0, rfl⟩ | ⟨row, tok, rfl, hr⟩
  · obtain rfl := len_nil h0
    rw [stencillaw0_KeptValues.p1110100_eq]
    simp [lenL]
  · have := H row (lendRow ts ++ (roomV ++ roomV)) ts.len 0 tok (.cut (ts.len + 2)) st ⟨roomV ++ roomV, by simp⟩ (by simpa using hr) (by omega) hs (by omega)
    simpa [lendL] using this

theorem keptV_of {h : Hd} {parts : Va} {cs : List AV} (H : KeptOk parts) (h1 : One h parts cs) (hs : nsz h.names ≤ 1050000) (hs2 : parts.sz ≤ 1050000) (st : Sto) :
    CallR ap 18 [.agg (lendV h parts), .agg cs] st = some (.ret (.bool true), st) := by
  have hall := h1.all
  have hall2 : (lendV h parts).all AV.isCell = true := rfl
  obtain ⟨a, p, rfl, hIn, ha, hp⟩ := h1
  have a0 := fun n x (hx : (lendV h parts)[n]? = some x) => m_get (st := (st ++ [Ob.cells 0 (lendV h parts) 0]) ++ [Ob.cells 0 (hcells h a p) 0]) (x := x) (n := n) (g := 0) (fz := 0) get_mid hx
  have b0 := fun n x (hx : (hcells h a p)[n]? = some x) => m_get (st := (st ++ [Ob.cells 0 (lendV h parts) 0]) ++ [Ob.cells 0 (hcells h a p) 0]) (x := x) (n := n) (g := 0) (fz := 0) get_last hx
  rw [stencillaw0_KeptValue.call]
  refine ret_keep (st' := (st ++ [Ob.cells 0 (lendV h parts) 0]) ++ [Ob.cells 0 (hcells h a p) 0]) ?_ rfl rfl (by rw [List.append_assoc]; exact Keeps.app (Nat.le_refl _))
  rw [stencillaw0_KeptValue.b_eq, agg_cells, agg_cells, if_pos hall2, if_pos hall]
  simp only [a0 0 _ rfl, b0 0 _ rfl, a0 1 _ rfl, b0 1 _ rfl, a0 2 _ rfl, b0 2 _ rfl, a0 3 _ rfl, b0 3 _ rfl, a0 4 _ rfl, b0 4 _ rfl, a0 5 _ rfl, b0 5 _ rfl, Option.bind_some, asS, asI, eqB, beq_self_eq_true, if_true, decide_true, cond_true, keptTexts_spec ha hs, Out.on, asB, kept_of H hp hs2]

theorem kept_all (ts : Va) : KeptOk ts := by
  induction ts with
  | nil =>
    intro row row' n i tok tok' st hr' hr hn hs hb
    simp only [Va.len] at hn
    rw [stencillaw0_KeptValues.p1110100_eq]
    have hlt : ¬ (((i : Nat) : Int) < ((n : Nat) : Int)) := by omega
    simp only [lenL, Option.bind_some, hlt, decide_false, cond_false]
  | cons h parts rest ihp ihr =>
    intro row row' n i tok tok' st hr' hr hn hs hb
    simp only [Va.len] at hn
    simp only [Va.sz] at hs
    obtain ⟨a, pl, hIn, hna, hpl, hr2, hrl, hia⟩ := row_at hr
    have hia := hia n tok (by omega)
    obtain ⟨r, hr'⟩ := hr'
    have hl' : (row'.drop (i * 6)).length = (lendRow rest).length + r.length + 6 := by rw [hr']; simp only [lendRow, List.length_append, hcells, List.length_cons, List.length_nil]; omega
    rw [List.length_drop] at hl'
    have hia' : ia 6 (.is row' n tok') (.int .i64 (i : Int)) = some (.ip (lendV h parts)) := by
      have hc : (i + 1) * 6 ≤ row'.length := by omega
      simp only [ia, idx_nat (show i < n by omega), Option.bind_some, hc, if_true]
      rw [hr']
      rfl
    have hd : row'.drop ((i + 1) * 6) = lendRow rest ++ r := by
      rw [show (i + 1) * 6 = i * 6 + 6 by omega, ← List.drop_drop, hr']
      rfl
    have wi : IntKind.wrap .i64 ((i : Int) + 1) = ((i + 1 : Nat) : Int) := w64 _ (by omega) (by omega)
    have hlt : (((i : Nat) : Int) < ((n : Nat) : Int)) := by omega
    have l6 : ∀ cs : List AV, cs.length = 6 → ld true 6 st (.ip cs) = some (.agg cs) := by
      intro cs hcs
      simp only [ld, ldCells, hcs, Nat.le_refl, if_true, Option.bind_some]
      rw [← hcs, List.take_length]
      rfl
    rw [stencillaw0_KeptValues.p1110100_eq]
    simp only [lenL, Option.bind_some, hlt, decide_true, cond_true, hia, hia', l6 (lendV h parts) rfl, l6 (hcells h a pl) rfl, keptV_of ihp (cs := hcells h a pl) ⟨a, pl, rfl, hIn, hna, hpl⟩ (show nsz h.names ≤ 1050000 by omega) (show parts.sz ≤ 1050000 by omega), Out.on, if_true, asB, Bool.not_true, cond_false, wi]
    exact ihr row row' n (i + 1) tok tok' st ⟨r, hd⟩ hr2 (by omega) (by omega) hb

theorem keptValue_spec {h : Hd} {parts : Va} {cs : List AV} (h1 : One h parts cs) (hs : (Va.cons h parts .nil).sz ≤ 1050000) (st : Sto) : CallR ap 18 [.agg (lendV h parts), .agg cs] st = some (.ret (.bool true), st) := by
  simp only [Va.sz] at hs
  exact keptV_of (kept_all parts) h1 (by omega) (by omega) st
end Go.Proofs.YtiiooldjegoikaaDoor
