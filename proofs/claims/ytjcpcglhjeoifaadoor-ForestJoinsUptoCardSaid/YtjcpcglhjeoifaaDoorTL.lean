/- Forests: lent, copied, kept. -/
import Derived.Test.YtjcpcglhjeoifaaDoorTR
import Derived.Test.YtjcpcglhjeoifaaDoorStEv
namespace Go.Proofs.YtjcpcglhjeoifaaDoor
open Go.St Go.Lib
set_option linter.unusedVariables false
set_option linter.unusedSimpArgs false

theorem awake_spec : CallR ap 19 [] [] = some (.ret (.bool true), []) := ev_call 100000 (by kernel_rfl)
theorem num_spec (a : Int) (st : Sto) : CallR ap 14 [.int .i64 a] st = some (.ret (.int .i64 a), st) := by
  rw [stencillaw0_Num.call]
  exact ret_keep (stencillaw0_Num.b_eq a st) rfl rfl (Keeps.refl _ _)

/-! ### Not too deep -/
def ShalOk (ts : Fo) : Prop := ∀ (row : List AV) (n i d : Nat) (tok : Tok) (st : Sto), Row ts (row.drop (i * 4)) → n = i + ts.len → n ≤ 1050000 → 1 ≤ d → d ≤ 4096 →
  ∃ b, stencillaw0_trees.p110100 (.is row n tok) (d : Int) ((i : Nat) : Int) st = some ⟨.ret (.bool b), none, st⟩
theorem shal_of {ts : Fo} (H : ShalOk ts) {v : AV} (hv : FoV ts v) (hs : ts.sz ≤ 1050000) {d : Nat} (hd : d ≤ 4096) (st : Sto) : ∃ b, CallR ap 25 [v, .int .i64 (d : Int)] st = some (.ret (.bool b), st) := by
  suffices h : ∃ b, stencillaw0_trees.b v (d : Int) st = some ⟨.ret (.bool b), none, st⟩ by
    obtain ⟨b, h⟩ := h
    exact ⟨b, by rw [stencillaw0_trees.call]; exact ret_keep h rfl rfl (Keeps.refl _ _)⟩
  rw [stencillaw0_trees.b_eq]
  by_cases h0 : d = 0
  · subst h0
    simp only [Int.natCast_zero, decide_true, cond_true, hv.len, Option.bind_some]
    exact ⟨_, rfl⟩
  · have h0' : ¬ ((d : Int) = 0) := by omega
    simp only [h0', decide_false, cond_false]
    rcases hv with ⟨h0, rfl⟩ | ⟨row, tok, rfl, hr⟩
    · rw [stencillaw0_trees.p110100_eq]
      exact ⟨true, by simp [lenL]⟩
    · have hl := len_sz ts
      have := H row ts.len 0 d tok st (by simpa using hr) (by omega) (by omega) (by omega) hd
      simpa using this
theorem shal_all (ts : Fo) (hs : ts.sz ≤ 1050000) : ShalOk ts := by
  induction ts with
  | nil =>
    intro row n i d tok st hr hn hb h1 hd
    simp only [Fo.len] at hn
    rw [stencillaw0_trees.p110100_eq]
    have hlt : ¬ (((i : Nat) : Int) < ((n : Nat) : Int)) := by omega
    refine ⟨true, ?_⟩
    simp only [lenL, Option.bind_some, hlt, decide_false, cond_false]
  | cons tag text ats kids rest ihk ihr =>
    intro row n i d tok st hr hn hb h1 hd
    simp only [Fo.len] at hn
    simp only [Fo.sz] at hs
    obtain ⟨a, k, ha, hk, hr', hlen, hia⟩ := row_at hr
    have hia := hia n tok (by omega)
    have wi : IntKind.wrap .i64 ((i : Int) + 1) = ((i + 1 : Nat) : Int) := w64 _ (by omega) (by omega)
    have wd : IntKind.wrap .i64 ((d : Int) - 1) = ((d - 1 : Nat) : Int) := w64 _ (by omega) (by omega)
    have hlt : (((i : Nat) : Int) < ((n : Nat) : Int)) := by omega
    obtain ⟨b, hb'⟩ := shal_of (ihk (by omega)) hk (by omega) (d := d - 1) (by omega) st
    rw [stencillaw0_trees.p110100_eq]
    simp only [lenL, Option.bind_some, hlt, decide_true, cond_true, hia, f3, l1, wd, hb', Out.on, asB, wi]
    cases b with
    | false => exact ⟨false, rfl⟩
    | true => exact ihr (by omega) row n (i + 1) d tok st hr' (by omega) hb h1 hd
theorem shallow_spec {ts : Fo} {v : AV} (hv : FoV ts v) (hs : ts.sz ≤ 1050000) (st : Sto) : ∃ b, CallR ap 7 [v] st = some (.ret (.bool b), st) := by
  obtain ⟨b, h⟩ := shal_of (shal_all ts hs) hv hs (d := 4096) (by omega) st
  refine ⟨b, ?_⟩
  rw [stencillaw0_ShallowTrees.call]
  refine ret_keep ?_ rfl rfl (Keeps.refl _ _)
  rw [stencillaw0_ShallowTrees.b_eq, show ((4096 : Int)) = ((4096 : Nat) : Int) from rfl, h]
  rfl

/-! ### Rows that grow -/
def BufT (es n : Nat) (st : Sto) (x : AV) (cells : List AV) (len : Nat) : Prop :=
  (x = .nils ∧ cells = [] ∧ len = 0) ∨ ∃ i g, n ≤ i ∧ x = .is cells len (.tip i g es) ∧ st[i]? = some (.tip g) ∧ cells.length = len * es

theorem bufT_add {es bytes n : Nat} {st : Sto} {x : AV} {acc new : List AV} {len k : Nat} {str : Bool} {y : AV} (h : BufT es n st x acc len) (hn : n ≤ st.length) (hy : tailOf str es st y = some (new, k)) (h0 : 0 < k) (hnew : new.length = k * es) (hr : room bytes (len + k) = true) :
    ∃ i g st', appL false str es bytes x y st = some (.is (acc ++ new) (len + k) (.tip i g es), st') ∧ n ≤ i ∧ st'[i]? = some (.tip g) ∧ Keeps n st st' ∧ st.length ≤ st'.length ∧ (∀ (j : Nat) (o : Ob), st[j]? = some o → (∀ g, o ≠ .tip g) → st'[j]? = some o) ∧ (acc ++ new).length = (len + k) * es := by
  unfold appL
  simp only [hy, Option.bind_some]
  have hk : ¬ k = 0 := by omega
  rcases h with ⟨rfl, rfl, rfl⟩ | ⟨i, g, hi, rfl, hst, hl⟩
  · rw [Nat.zero_add] at *
    simp only [hk, if_false, hr, if_true, Bool.false_eq_true, List.nil_append]
    exact ⟨_, _, _, rfl, hn, by simp, Keeps.app hn, by simp, fun j o h _ => by
      rw [List.getElem?_append_left (List.getElem?_eq_some_iff.1 h).1]; exact h, by rw [hnew]⟩
  · simp only [hl, true_and, hr, if_true, hst]
    refine ⟨_, _, _, rfl, hi, ?_, Keeps.set hi, by simp, fun j o h ho => ?_, by rw [List.length_append, hl, hnew, Nat.add_mul]⟩
    · rw [List.getElem?_set_self (List.getElem?_eq_some_iff.1 hst).1]
    · by_cases hij : i = j
      · subst hij
        rw [hst] at h
        cases h
        exact absurd rfl (ho g)
      · rw [List.getElem?_set_ne hij]; exact h

theorem keeps_take {n : Nat} {st st' : Sto} (hk : Keeps st.length st st') : st'.take st.length = st := by
  apply List.ext_getElem?
  intro i
  rw [List.getElem?_take]
  split
  · rename_i hi; exact hk.at_ i hi
  · rename_i hi; rw [List.getElem?_eq_none (by omega)]

theorem gcT_tip {row : List AV} {len id g es : Nat} {st st' : Sto} (hs : strips st.length row = row) (ho : olds st.length row = true) (hi : st.length ≤ id) (ht : st'[id]? = some (.tip g)) (hk : Keeps st.length st st') :
    gcT st (.ret (.is row len (.tip id g es)), st') = (.ret (.is row len (.tip st.length 0 es)), st ++ [.tip 0]) := by
  unfold gcT
  dsimp only
  rw [if_pos ⟨by rw [hs]; exact ho, hi, ht, hk.len, fun i hi => .inl (hk.at_ i hi)⟩, keeps_take (n := 0) hk, hs]

/-! ### Attributes -/
theorem strips_acells (n : Nat) (ats : List (ByteArray × ByteArray)) : strips n (acells ats) = acells ats := by
  induction ats with
  | nil => rfl
  | cons x r ih => simp only [acells, strips, AV.strip, ih]
theorem olds_acells (n : Nat) (ats : List (ByteArray × ByteArray)) : olds n (acells ats) = true := by
  induction ats with
  | nil => rfl
  | cons x r ih => simp only [acells, olds, AV.old, ih, Bool.and_self]
theorem strips_app (n : Nat) (a b : List AV) : strips n (a ++ b) = strips n a ++ strips n b := by
  induction a with
  | nil => rfl
  | cons x r ih => simp only [List.cons_append, strips, ih]
theorem olds_app (n : Nat) (a b : List AV) : olds n (a ++ b) = (olds n a && olds n b) := by
  induction a with
  | nil => simp [olds]
  | cons x r ih => simp only [List.cons_append, olds, ih, Bool.and_assoc]

theorem AttV.tail {ats : List (ByteArray × ByteArray)} {v : AV} (h : AttV ats v) (st : Sto) : tailOf false 2 st v = some (acells ats, ats.length) := by
  rcases h with ⟨rfl, rfl⟩ | ⟨rest, tok, rfl⟩
  · rfl
  · have hl := acells_len ats
    simp only [tailOf, Bool.false_eq_true, if_false, rowOf, List.length_append, hl]
    by_cases h0 : rest = []
    · subst h0
      simp
    · have : 0 < rest.length := by cases rest with
        | nil => exact absurd rfl h0
        | cons => simp
      rw [if_neg (by omega), if_pos (by omega), ← hl, List.take_left]
      rfl

def roomA : List AV := [.str ⟨#[126, 114, 111, 111, 109]⟩, .str ⟨#[]⟩]
def roomT : List AV := [.str ⟨#[126, 114, 111, 111, 109]⟩, .str ⟨#[]⟩, .nils, .nils]
def lendA (ats : List (ByteArray × ByteArray)) : AV := .is (acells ats ++ (roomA ++ roomA)) ats.length (.cut (ats.length + 2))
def lendRow : Fo → List AV
  | .nil => []
  | .cons tag text ats kids rest => .str tag :: .str text :: lendA ats :: .is (lendRow kids ++ (roomT ++ roomT)) kids.len (.cut (kids.len + 2)) :: lendRow rest
/-- A forest lent. -/
def lendF (ts : Fo) : AV := .is (lendRow ts ++ (roomT ++ roomT)) ts.len (.cut (ts.len + 2))

theorem lendA_att (ats : List (ByteArray × ByteArray)) : AttV ats (lendA ats) := .inr ⟨_, _, rfl⟩
theorem lendRow_row (ts : Fo) : ∀ r, Row ts (lendRow ts ++ r) := by
  induction ts with
  | nil => intro r; trivial
  | cons tag text ats kids rest ihk ihr => exact fun r => ⟨_, _, _, rfl, lendA_att _, .inr ⟨_, _, rfl, ihk _⟩, ihr r⟩
theorem lendF_fo (ts : Fo) : FoV ts (lendF ts) := .inr ⟨_, _, rfl, lendRow_row ts _⟩
theorem lendRow_len (ts : Fo) : (lendRow ts).length = ts.len * 4 := by
  induction ts with
  | nil => rfl
  | cons tag text ats kids rest ihk ihr => simp only [lendRow, List.length_cons, ihr, Fo.len]; omega
theorem strip_lendA (n : Nat) (ats : List (ByteArray × ByteArray)) : (lendA ats).strip n = lendA ats := by
  simp only [lendA, AV.strip, strips_app, strips_acells, Tok.strip]
  rfl
theorem old_lendA (n : Nat) (ats : List (ByteArray × ByteArray)) : (lendA ats).old n = true := by
  simp only [lendA, AV.old, olds_app, olds_acells, Tok.old]
  rfl
theorem strips_lendRow (n : Nat) (ts : Fo) : strips n (lendRow ts) = lendRow ts := by
  induction ts with
  | nil => rfl
  | cons tag text ats kids rest ihk ihr =>
    simp only [lendRow, strips, strip_lendA, AV.strip, strips_app, ihk, ihr, Tok.strip]
    rfl
theorem olds_lendRow (n : Nat) (ts : Fo) : olds n (lendRow ts) = true := by
  induction ts with
  | nil => rfl
  | cons tag text ats kids rest ihk ihr =>
    simp only [lendRow, olds, old_lendA, AV.old, olds_app, ihk, ihr, Tok.old]
    rfl
theorem strip_lendF (n : Nat) (ts : Fo) : (lendF ts).strip n = lendF ts := by
  simp only [lendF, AV.strip, strips_app, strips_lendRow, Tok.strip]
  rfl
theorem old_lendF (n : Nat) (ts : Fo) : (lendF ts).old n = true := by
  simp only [lendF, AV.old, olds_app, olds_lendRow, Tok.old]
  rfl

theorem copyAttrs_spec {ats : List (ByteArray × ByteArray)} {a : AV} (ha : AttV ats a) (hs : asz ats ≤ 1050000) (st : Sto) :
    (ats.length = 0 ∧ CallR ap 48 [a] st = some (.ret (.is [] 0 .full), st)) ∨
    (0 < ats.length ∧ CallR ap 48 [a] st = some (.ret (.is (acells ats) ats.length (.tip st.length 0 2)), st ++ [.tip 0])) := by
  have hl := asz_len ats
  have hroom : room 32 ats.length = true := by simp [room]; omega
  have h0 : (litS false 0 2 (fillA (fun i => some (i * 2, 2)) [] []) st) = some (.is [] 0 .full, st) := rfl
  by_cases hz : ats.length = 0
  · left
    refine ⟨hz, ?_⟩
    rw [stencillaw0_CopyAttrs.call, stencillaw0_CopyAttrs.b_eq, h0]
    simp only [Option.bind_some, appL, ha.tail, hz, if_true]
    show some (gcT st (.ret (.is [] 0 .full), st)) = _
    unfold gcT
    rw [gc_keep rfl rfl (Keeps.refl _ _)]
  · right
    refine ⟨by omega, ?_⟩
    rw [stencillaw0_CopyAttrs.call, stencillaw0_CopyAttrs.b_eq, h0]
    simp only [Option.bind_some, appL, ha.tail, hz, if_false, Nat.zero_add, hroom, List.length_nil, Nat.zero_mul, and_self, if_true, Bool.false_eq_true, List.nil_append]
    rw [gcT_tip (strips_acells _ _) (olds_acells _ _) (Nat.le_refl _) (by simp) (Keeps.app (Nat.le_refl _))]

theorem rooms_lit (st : Sto) : (litS false 2 2 (fillA (fun i => some (i * 2, 2)) [.str ⟨#[]⟩, .str ⟨#[]⟩, .str ⟨#[]⟩, .str ⟨#[]⟩] [(0, .agg roomA), (1, .agg roomA)]) st) = some (.is (roomA ++ roomA) 2 .full, st) := rfl
theorem roomA_agg : (aggA (fillA (fun i => ([(0, 1), (1, 1)] : List (Nat × Nat))[i]?) [.str ⟨#[]⟩, .str ⟨#[]⟩] [(0, (.str ⟨#[126, 114, 111, 111, 109]⟩))])) = some (.agg roomA) := rfl
theorem roomT_agg : (aggA (fillA (fun i => ([(0, 1), (1, 1), (2, 1), (3, 1)] : List (Nat × Nat))[i]?) [.str ⟨#[]⟩, .str ⟨#[]⟩, .nils, .nils] [(0, (.str ⟨#[126, 114, 111, 111, 109]⟩))])) = some (.agg roomT) := rfl

theorem bnd_nat {d m i : Nat} {k : IntKind} (h : i ≤ m) : bnd d m (some (.int k (i : Int))) = some i := by
  unfold bnd
  simp only
  rw [if_pos (by omega)]
  simp

/-- Cut where the rooms begin. -/
theorem cut_rooms {es n : Nat} {row : List AV} {i g : Nat} (hl : row.length = (n + 2) * es) : cutL es (.is row (n + 2) (.tip i g es)) none (some (.int .i64 ((n : Nat) : Int))) = some (.is row n (.cut (n + 2))) := by
  have h1 : bnd (n + 2) (n + 2) (some (.int .i64 ((n : Nat) : Int))) = some n := bnd_nat (by omega)
  have h2 : ¬ n = n + 2 := by omega
  have h3 : bnd 0 n none = some 0 := rfl
  simp only [cutL, Tok.most, h1, Option.bind_some, h3, hl, if_true, Tok.part, h2, if_false, Nat.zero_mul, List.drop_zero, Nat.sub_zero]
/-- The rooms looked at. -/
theorem open_rooms {es n : Nat} {row : List AV} (hl : row.length = (n + 2) * es) : cutL es (.is row n (.cut (n + 2))) none (some (.int .i64 ((n + 2 : Nat) : Int))) = some (.is row (n + 2) (.cut (n + 2))) := by
  have h1 : bnd n (n + 2) (some (.int .i64 ((n + 2 : Nat) : Int))) = some (n + 2) := bnd_nat (by omega)
  have h3 : bnd 0 (n + 2) none = some 0 := rfl
  simp only [cutL, Tok.most, h1, Option.bind_some, h3, hl, if_true, Tok.part, Nat.zero_mul, List.drop_zero, Nat.sub_zero]

theorem lendAttrs_spec {ats : List (ByteArray × ByteArray)} {a : AV} (ha : AttV ats a) (hs : asz ats ≤ 1050000) (st : Sto) : CallR ap 38 [a] st = some (.ret (lendA ats), st) := by
  have hl := asz_len ats
  have hc := acells_len ats
  have hroom : ∀ n, n ≤ ats.length + 2 → room 32 n = true := fun n hn => by simp [room]; omega
  have ht : ∀ s : Sto, tailOf false 2 s (.is (roomA ++ roomA) 2 .full) = some (roomA ++ roomA, 2) := fun _ => rfl
  suffices h : ∃ st', stencillaw0_LendAttrs.b a st = some ⟨.ret (lendA ats), none, st'⟩ ∧ Keeps st.length st st' by
    obtain ⟨st', h1, h2⟩ := h
    rw [stencillaw0_LendAttrs.call]
    exact ret_keep h1 (strip_lendA _ _) (old_lendA _ _) h2
  rw [stencillaw0_LendAttrs.b_eq]
  rcases copyAttrs_spec ha hs st with ⟨h0, h1⟩ | ⟨h0, h1⟩
  · obtain rfl := List.eq_nil_of_length_eq_zero h0
    have ha' : appL false false 2 32 (.is [] 0 .full) (.is (roomA ++ roomA) 2 .full) st = some (.is (roomA ++ roomA) (0 + 2) (.tip st.length 0 2), st ++ [.tip 0]) := by
      simp only [appL, ht, Option.bind_some, show ¬ (2 = 0) by omega, if_false, hroom (0 + 2) (by simp), List.length_nil, Nat.zero_mul, and_self, if_true, Bool.false_eq_true, List.nil_append]
    have hcut := cut_rooms (es := 2) (n := 0) (row := roomA ++ roomA) (i := st.length) (g := 0) rfl
    simp only [h1, Option.bind_some, Out.on, roomA_agg, rooms_lit, ha', ha.len, List.length_nil, hcut]
    exact ⟨_, rfl, Keeps.app (Nat.le_refl _)⟩
  · have ha' : appL false false 2 32 (.is (acells ats) ats.length (.tip st.length 0 2)) (.is (roomA ++ roomA) 2 .full) (st ++ [.tip 0]) = some (.is (acells ats ++ (roomA ++ roomA)) (ats.length + 2) (.tip st.length (0 + 1) 2), (st ++ [Ob.tip 0]).set st.length (Ob.tip (0 + 1))) := by
      have hg : (st ++ [Ob.tip 0])[st.length]? = some (.tip 0) := by simp
      simp only [appL, ht, Option.bind_some, hc, hroom (ats.length + 2) (Nat.le_refl _), and_self, if_true, hg]
    have hcut := cut_rooms (es := 2) (n := ats.length) (row := acells ats ++ (roomA ++ roomA)) (i := st.length) (g := 0 + 1) (by rw [List.length_append, hc]; simp [roomA]; omega)
    simp only [h1, Option.bind_some, Out.on, roomA_agg, rooms_lit, ha', ha.len, hcut]
    exact ⟨_, rfl, (Keeps.app (Nat.le_refl _)).trans (Keeps.set (Nat.le_refl _))⟩

/-! ### A tree lent -/
theorem cell2 {ats : List (ByteArray × ByteArray)} {kids : Fo} {a k : AV} {tag text : ByteArray} (ha : AttV ats a) (hk : FoV kids k) : ([AV.str tag, .str text, a, k]).all AV.isCell = true := by
  rcases ha with ⟨_, rfl⟩ | ⟨_, _, rfl⟩ <;> rcases hk with ⟨_, rfl⟩ | ⟨_, _, rfl, _⟩ <;> rfl

theorem agg_cells (cs : List AV) : AV.cells (.agg cs) = cs := rfl

theorem sto_all {st : Sto} {id : Nat} {cs cs' : List AV} (h : st[id]? = some (.cells 0 cs 0)) (hc : cs'.all AV.isCell = true) {n : Nat} (hn : cs'.length = n) (hn' : cs.length = n) : sto n st (.mp id 0 0) (.agg cs') = some (st.set id (.cells 0 cs' 0)) := by
  have h3 : (AV.cells (.agg cs')).length = n := hn
  have h2 : cs'.length ≤ cs.length := by omega
  unfold sto
  rw [if_pos h3, agg_cells]
  simp only [stCells, h, Nat.zero_add, h2, hc, Nat.le_refl, true_and, and_self, if_true, splice, List.take_zero, List.nil_append]
  rw [List.drop_of_length_le (by omega), List.append_nil]

/-- Two fields of a copy turned, the copy handed back: the shape of LendTree and CopyTree. -/
theorem set_mid {st : Sto} {o o' z : Ob} : ((st ++ [o]) ++ [z]).set st.length o' = (st ++ [o']) ++ [z] := by
  rw [List.append_assoc, List.set_append_right _ _ (Nat.le_refl _), List.append_assoc]
  simp
theorem get_mid {st : Sto} {o z : Ob} : ((st ++ [o]) ++ [z])[st.length]? = some o := by
  rw [List.append_assoc, List.getElem?_append_right (Nat.le_refl _)]
  simp
theorem get_last {st : Sto} {o z : Ob} : ((st ++ [o]) ++ [z])[(st ++ [o]).length]? = some z := by
  rw [List.getElem?_append_right (Nat.le_refl _)]
  simp

def LendOk (ts : Fo) : Prop := ∀ (row : List AV) (n i : Nat) (tok : Tok) (st : Sto) (nn : Nat) (x : AV) (pre : List AV), Row ts (row.drop (i * 4)) → n = i + ts.len → ts.sz ≤ 1050000 → n ≤ 1050000 → nn ≤ st.length → BufT 4 nn st x pre i →
  ∃ st', stencillaw0_LendTrees.p110100 (.is row n tok) x ((i : Nat) : Int) st = some ⟨.ret (.is ((pre ++ lendRow ts) ++ (roomT ++ roomT)) n (.cut (n + 2))), none, st'⟩ ∧ Keeps nn st st'

theorem tail_rooms (st : Sto) : tailOf false 4 st (.is (roomT ++ roomT) 2 .full) = some (roomT ++ roomT, 2) := rfl
theorem roomsT_lit (st : Sto) : (litS false 2 4 (fillA (fun i => some (i * 4, 4)) [.str ⟨#[]⟩, .str ⟨#[]⟩, .nils, .nils, .str ⟨#[]⟩, .str ⟨#[]⟩, .nils, .nils] [(0, .agg roomT), (1, .agg roomT)]) st) = some (.is (roomT ++ roomT) 2 .full, st) := rfl

/-- The end of the lending: two rooms behind. -/
theorem lend_end {row : List AV} {n : Nat} {t0 : AV} {st : Sto} {nn : Nat} {x : AV} {pre : List AV} (hl0 : lenL t0 = some n) (hb : n ≤ 1050000) (hnn : nn ≤ st.length) (hx : BufT 4 nn st x pre n) :
    ∃ st', stencillaw0_LendTrees.p110100 t0 x ((n : Nat) : Int) st = some ⟨.ret (.is (pre ++ (roomT ++ roomT)) n (.cut (n + 2))), none, st'⟩ ∧ Keeps nn st st' := by
  obtain ⟨i, g, st', h1, h2, h3, h4, h5, h6, h7⟩ := bufT_add (bytes := 80) (str := false) hx hnn (tail_rooms st) (by omega) rfl (by simp [room]; omega)
  refine ⟨st', ?_, h4⟩
  rw [stencillaw0_LendTrees.p110100_eq]
  simp only [hl0, Option.bind_some, Int.lt_irrefl, decide_false, cond_false, roomT_agg, roomsT_lit, h1, cut_rooms h7]

theorem lend_of {ts : Fo} (H : LendOk ts) {v : AV} (hv : FoV ts v) (hs : ts.sz ≤ 1050000) (st : Sto) : CallR ap 8 [v] st = some (.ret (lendF ts), st) := by
  suffices h : ∃ st', stencillaw0_LendTrees.b v st = some ⟨.ret (lendF ts), none, st'⟩ ∧ Keeps st.length st st' by
    obtain ⟨st', h1, h2⟩ := h
    rw [stencillaw0_LendTrees.call]
    exact ret_keep h1 (strip_lendF _ _) (old_lendF _ _) h2
  rw [stencillaw0_LendTrees.b_eq]
  rcases hv with ⟨h0, rfl⟩ | ⟨row, tok, rfl, hr⟩
  · obtain rfl := len_nil h0
    exact lend_end (row := []) (n := 0) (pre := []) rfl (by omega) (Nat.le_refl _) (.inl ⟨rfl, rfl, rfl⟩)
  · have hl := len_sz ts
    have := H row ts.len 0 tok st st.length .nils [] (by simpa using hr) (by omega) hs (by omega) (Nat.le_refl _) (.inl ⟨rfl, rfl, rfl⟩)
    simpa [lendF] using this

theorem lendTree_of {tag text : ByteArray} {ats : List (ByteArray × ByteArray)} {kids : Fo} (H : LendOk kids) {a k : AV} (ha : AttV ats a) (hk : FoV kids k) (hs : asz ats ≤ 1050000) (hs2 : kids.sz ≤ 1050000) (st : Sto) :
    CallR ap 26 [.agg [.str tag, .str text, a, k]] st = some (.ret (.agg [.str tag, .str text, lendA ats, lendF kids]), st) := by
  suffices h : ∃ st', stencillaw0_LendTree.b (.agg [.str tag, .str text, a, k]) st = some ⟨.ret (.agg [.str tag, .str text, lendA ats, lendF kids]), none, st'⟩ ∧ Keeps st.length st st' by
    obtain ⟨st', h1, h2⟩ := h
    rw [stencillaw0_LendTree.call]
    refine ret_keep h1 ?_ ?_ h2
    · simp only [AV.strip, strips, strip_lendA, strip_lendF]
    · simp only [AV.old, olds, old_lendA, old_lendF, Bool.and_self]
  have s1 : sto 1 ((st ++ [Ob.cells 0 [.str tag, .str text, a, k] 0]) ++ [Ob.cells 0 [.str ⟨#[]⟩, .str ⟨#[]⟩, .nils, .nils] 0]) (.mp st.length 0 2) (lendA ats) = some ((st ++ [Ob.cells 0 [.str tag, .str text, lendA ats, k] 0]) ++ [Ob.cells 0 [.str ⟨#[]⟩, .str ⟨#[]⟩, .nils, .nils] 0]) := by
    rw [sto_at get_mid (by simp) rfl rfl, set_mid]
    rfl
  have s2 : sto 1 ((st ++ [Ob.cells 0 [.str tag, .str text, lendA ats, k] 0]) ++ [Ob.cells 0 [.str ⟨#[]⟩, .str ⟨#[]⟩, .nils, .nils] 0]) (.mp st.length 0 3) (lendF kids) = some ((st ++ [Ob.cells 0 [.str tag, .str text, lendA ats, lendF kids] 0]) ++ [Ob.cells 0 [.str ⟨#[]⟩, .str ⟨#[]⟩, .nils, .nils] 0]) := by
    rw [sto_at get_mid (by simp) rfl rfl, set_mid]
    rfl
  have s3 := sto_all (st := (st ++ [Ob.cells 0 [.str tag, .str text, lendA ats, lendF kids] 0]) ++ [Ob.cells 0 [.str ⟨#[]⟩, .str ⟨#[]⟩, .nils, .nils] 0]) (cs' := [.str tag, .str text, lendA ats, lendF kids]) (n := 4) get_last rfl rfl rfl
  have e1 : (st ++ [Ob.cells 0 [AV.str tag, .str text, a, k] 0]).length = (st ++ [Ob.cells 0 [AV.str tag, .str text, lendA ats, lendF kids] 0]).length := by simp
  rw [stencillaw0_LendTree.b_eq, agg_cells, if_pos (cell2 ha hk), e1]
  simp only [m_get (x := a) (n := 2) (cs := [.str tag, .str text, a, k]) get_mid rfl, Option.bind_some, lendAttrs_spec ha hs, Out.on, s1, m_get (x := k) (n := 3) (cs := [.str tag, .str text, lendA ats, k]) get_mid rfl, lend_of H hk hs2, s2,
    m_all (n := 4) (cs := [.str tag, .str text, lendA ats, lendF kids]) (st := (st ++ [Ob.cells 0 [.str tag, .str text, lendA ats, lendF kids] 0]) ++ [Ob.cells 0 [.str ⟨#[]⟩, .str ⟨#[]⟩, .nils, .nils] 0]) get_mid rfl, s3]
  rw [m_all (n := 4) (cs := [.str tag, .str text, lendA ats, lendF kids]) (List.getElem?_set_self (by simp)) rfl]
  refine ⟨_, rfl, ?_⟩
  rw [List.append_assoc]
  exact (Keeps.app (Nat.le_refl _)).trans (Keeps.set (by simp))

theorem lit_tree {cs : List AV} (hc : cs.all AV.isCell = true) (hl : cs.length = 4) (st : Sto) : (litS false 1 4 (fillA (fun i => some (i * 4, 4)) [.str ⟨#[]⟩, .str ⟨#[]⟩, .nils, .nils] [(0, .agg cs)]) st) = some (.is cs 1 .full, st) := by
  have h1 : (AV.cells (.agg cs)) = cs := rfl
  simp only [fillA, h1, hl, hc, Nat.zero_mul, Nat.zero_add, List.length_cons, List.length_nil, Nat.le_refl, and_self, if_true, litS, Option.bind_some, Bool.false_eq_true, if_false, splice, List.take_zero, List.nil_append]
  simp
theorem tail_tree {cs : List AV} (hl : cs.length = 4) (st : Sto) : tailOf false 4 st (.is cs 1 .full) = some (cs, 1) := by
  simp [tailOf, rowOf, hl]

theorem lend_all (ts : Fo) : LendOk ts := by
  induction ts with
  | nil =>
    intro row n i tok st nn x pre hr hn hs hb hnn hx
    simp only [Fo.len, Nat.add_zero] at hn
    subst hn
    obtain ⟨st', h1, h2⟩ := lend_end (row := row) (t0 := .is row n tok) rfl hb hnn hx
    exact ⟨st', by simpa [lendRow] using h1, h2⟩
  | cons tag text ats kids rest ihk ihr =>
    intro row n i tok st nn x pre hr hn hs hb hnn hx
    simp only [Fo.len] at hn
    simp only [Fo.sz] at hs
    obtain ⟨a, k, ha, hk, hr', hlen, hia⟩ := row_at hr
    have hia := hia n tok (by omega)
    have wi : IntKind.wrap .i64 ((i : Int) + 1) = ((i + 1 : Nat) : Int) := w64 _ (by omega) (by omega)
    have hlt : (((i : Nat) : Int) < ((n : Nat) : Int)) := by omega
    have hcell : ([AV.str tag, .str text, lendA ats, lendF kids]).all AV.isCell = true := rfl
    obtain ⟨j, g, s1, h1, h2, h3, h4, h5, h6, h7⟩ := bufT_add (bytes := 80) (str := false) hx hnn (tail_tree (cs := [.str tag, .str text, lendA ats, lendF kids]) rfl st) (by omega) rfl (by simp [room]; omega)
    obtain ⟨st', m1, m2⟩ := ihr row n (i + 1) tok s1 nn _ _ hr' (by omega) (by omega) hb (Nat.le_trans hnn h5) (.inr ⟨j, g, h2, rfl, h3, h7⟩)
    refine ⟨st', ?_, h4.trans m2⟩
    rw [stencillaw0_LendTrees.p110100_eq]
    simp only [lenL, Option.bind_some, hlt, decide_true, cond_true, hia, l4, lendTree_of ihk ha hk (show asz ats ≤ 1050000 by omega) (show kids.sz ≤ 1050000 by omega), Out.on, lit_tree hcell rfl, h1, wi]
    rw [m1]
    simp [lendRow, lendF]

theorem lendTrees_spec {ts : Fo} {v : AV} (hv : FoV ts v) (hs : ts.sz ≤ 1050000) (st : Sto) : CallR ap 8 [v] st = some (.ret (lendF ts), st) := lend_of (lend_all ts) hv hs st
end Go.Proofs.YtjcpcglhjeoifaaDoor
