/- Programs copied. -/
import Derived.Test.YtcgepgahgihojaaDoorVB
namespace Go.Proofs.YtcgepgahgihojaaDoor
open Go.St Go.Lib
set_option linter.unusedVariables false
set_option linter.unusedSimpArgs false

theorem gd_app {α : Type} {l m : List α} {d : α} {i : Nat} (h : i < l.length) : (l ++ m).getD i d = l.getD i d := by
  rw [List.getD_eq_getElem?_getD, List.getElem?_append_left h, ← List.getD_eq_getElem?_getD]
theorem gd_last {α : Type} {l : List α} {x d : α} : (l ++ [x]).getD l.length d = x := by
  rw [List.getD_eq_getElem?_getD, List.getElem?_concat_length]
  rfl
/-! ### What leads to nothing new -/
def Clean (v : AV) : Prop := ∀ n, v.strip n = v ∧ v.old n = true
def Cleans (l : List AV) : Prop := ∀ v ∈ l, Clean v
theorem Cleans.strips {l : List AV} (h : Cleans l) (n : Nat) : strips n l = l := by
  induction l with
  | nil => rfl
  | cons v r ih => simp only [Go.St.strips]; rw [(h v (by simp) n).1, ih fun x hx => h x (by simp [hx])]
theorem Cleans.olds {l : List AV} (h : Cleans l) (n : Nat) : olds n l = true := by
  induction l with
  | nil => rfl
  | cons v r ih => simp only [Go.St.olds]; rw [(h v (by simp) n).2, ih fun x hx => h x (by simp [hx])]; rfl
theorem Cleans.app {a b : List AV} (h : Cleans a) (k : Cleans b) : Cleans (a ++ b) := fun v hv => by
  rcases List.mem_append.1 hv with hv | hv
  · exact h v hv
  · exact k v hv
theorem clean_is {row : List AV} {n : Nat} (h : Cleans row) : Clean (.is row n .no) := fun k => by
  simp only [AV.strip, AV.old, h.strips, h.olds, Tok.strip, Tok.old, Bool.and_self, and_self]
theorem clean_agg {cs : List AV} (h : Cleans cs) : Clean (.agg cs) := fun k => by simp only [AV.strip, AV.old, h.strips, h.olds, and_self]
theorem clean_flat : ∀ {ms : List (List AV)}, (∀ m ∈ ms, Cleans m) → Cleans ms.flatten := by
  intro ms
  induction ms with
  | nil => intro _ v hv; simp at hv
  | cons m r ih =>
    intro h
    rw [List.flatten_cons]
    exact (h m (by simp)).app (ih fun x hx => h x (by simp [hx]))
theorem clean_nils : Clean .nils := fun _ => ⟨rfl, rfl⟩
theorem clean_int (x : Int) : Clean (.int .i64 x) := fun _ => ⟨rfl, rfl⟩
theorem clean_str (x : ByteArray) : Clean (.str x) := fun _ => ⟨rfl, rfl⟩
theorem clean_full : Clean (.is [] 0 .full) := fun _ => ⟨rfl, rfl⟩

/-! ### A row, appended to nothing -/
theorem part_take {row : List AV} {n i w : Nat} (h : (i + 1) * w ≤ n) : ((row.take n).drop (i * w)).take w = (row.drop (i * w)).take w := by
  rw [List.drop_take, List.take_take, Nat.min_eq_left]
  rw [Nat.succ_mul] at h
  omega
theorem el_tail {w n : Nat} {f : Nat → List AV → Prop} {v : AV} (h : ElV w n f v) (st : Sto) : ∃ row, tailOf false w st v = some (row, n) ∧ row.length = n * w ∧ (∀ tok, ElV w n f (.is row n tok)) ∧ ∀ i, i < n → f i ((row.drop (i * w)).take w) := by
  obtain ⟨h1, h2, h3, h4⟩ := h
  cases v with
  | nils =>
    have hn : n = 0 := by simpa [lenL] using h1.symm
    subst hn
    exact ⟨[], rfl, by simp, fun tok => ⟨rfl, rfl, rfl, fun i hi => absurd hi (by omega)⟩, fun i hi => absurd hi (by omega)⟩
  | is row m tok =>
    have hm : m = n := by simpa [lenL] using h1
    subst hm
    have hat : ∀ i, i < m → (i + 1) * w ≤ row.length ∧ f i ((row.drop (i * w)).take w) := fun i hi => by
      obtain ⟨cs, hia, hf⟩ := h4 i hi
      simp only [ia, idx_nat hi, Option.bind_some] at hia
      split at hia
      · rename_i hc
        simp only [Option.some.injEq, AV.ip.injEq] at hia
        subst hia
        exact ⟨hc, hf⟩
      · cases hia
    have hlen : m * w ≤ row.length := by
      by_cases h0 : m = 0
      · rw [h0, Nat.zero_mul]; omega
      · have := (hat (m - 1) (by omega)).1
        rwa [show m - 1 + 1 = m by omega] at this
    have hle : ∀ i, i < m → (i + 1) * w ≤ m * w := fun i hi => Nat.mul_le_mul_right w hi
    refine ⟨row.take (m * w), ?_, by rw [List.length_take]; omega, fun tok => ⟨rfl, rfl, rfl, fun i hi => ⟨(row.drop (i * w)).take w, ?_, (hat i hi).2⟩⟩, fun i hi => by rw [part_take (hle i hi)]; exact (hat i hi).2⟩
    · simp only [tailOf, Bool.false_eq_true, if_false, rowOf]
      by_cases h0 : row.length = m * w
      · rw [if_pos h0, ← h0, List.take_length]; rfl
      · rw [if_neg h0, if_pos hlen]; rfl
    · have hc : (i + 1) * w ≤ (row.take (m * w)).length := by rw [List.length_take]; have := hle i hi; omega
      simp only [ia, idx_nat hi, Option.bind_some, hc, if_true, part_take (hle i hi)]
  | _ => cases h3

theorem chunk_mem {w n : Nat} (hw : 0 < w) {row : List AV} (hl : row.length = n * w) {P : AV → Prop} (h : ∀ i, i < n → ∀ x ∈ (row.drop (i * w)).take w, P x) : ∀ x ∈ row, P x := by
  intro x hx
  obtain ⟨j, hj, rfl⟩ := List.getElem_of_mem hx
  have hi : j / w < n := Nat.div_lt_of_lt_mul (by rw [Nat.mul_comm]; omega)
  have hm := Nat.mod_lt j hw
  have hd := Nat.div_add_mod j w
  refine h (j / w) hi _ ?_
  rw [List.mem_iff_getElem?]
  refine ⟨j % w, ?_⟩
  rw [List.getElem?_take_of_lt hm, List.getElem?_drop, Nat.mul_comm, hd, List.getElem?_eq_getElem hj]

theorem app_copy {w n bytes : Nat} (hw : 0 < w) {f : Nat → List AV → Prop} {v : AV} (h : ElV w n f v) (hn : n ≤ 1050000) (hb : bytes ≤ 1000) (hcl : ∀ i cs, f i cs → Cleans cs) (st : Sto) :
    ∃ x st1 v', appL false false w bytes (.is [] 0 .full) v st = some (x, st1) ∧ gc st (.ret x, st1) = (.ret v', st) ∧ ElV w n f v' ∧ Clean v' := by
  obtain ⟨row, t1, t2, t3, t4⟩ := el_tail h st
  simp only [appL, t1, Option.bind_some]
  by_cases h0 : n = 0
  · subst h0
    simp only [if_true]
    exact ⟨_, _, .is [] 0 .full, rfl, gc_keep rfl rfl (Keeps.refl _ _), ⟨rfl, rfl, rfl, fun i hi => absurd hi (by omega)⟩, clean_full⟩
  · have hroom : room bytes n = true := by
      have : n * bytes ≤ 1050000 * 1000 := Nat.mul_le_mul hn hb
      simp [room]; omega
    have hcr : Cleans row := chunk_mem hw t2 fun i hi x hx => hcl i _ (t4 i hi) x hx
    simp only [h0, if_false, List.length_nil, Nat.zero_mul, Nat.zero_add, hroom, and_self, if_true, List.nil_append, Bool.false_eq_true]
    have hlt : ¬ st.length < st.length := by omega
    have hs : (AV.is row n (.tip st.length 0 w)).strip st.length = .is row n .no := by
      simp only [AV.strip, hcr.strips, Tok.strip, hlt, if_false]
    refine ⟨_, _, .is row n .no, rfl, ?_, t3 .no, clean_is hcr⟩
    rw [gc_strip (by rw [hs]; exact (clean_is hcr _).2) (Keeps.app (Nat.le_refl _)), hs]

theorem copyTexts_spec {l : List ByteArray} {v : AV} (h : TxV l v) (hl : l.length ≤ 1050000) (st : Sto) : ∃ v', CallR ap 15 [v] st = some (.ret v', st) ∧ TxV l v' ∧ Clean v' := by
  obtain ⟨x, st1, v', a, b, c, d⟩ := app_copy (bytes := 16) (by omega) h hl (by omega) (fun i cs hf => by subst hf; exact fun y hy => by simp at hy; subst hy; exact clean_str _) st
  refine ⟨v', ?_, c, d⟩
  have h0 : (litS false 0 1 (fillA (fun i => some (i * 1, 1)) [] []) st) = some (.is [] 0 .full, st) := rfl
  rw [stencillaw0_CopyTexts.call, stencillaw0_CopyTexts.b_eq, h0]
  simp only [Option.bind_some, a, b]
theorem copyInts_spec {l : List Int} {v : AV} (h : IntV l v) (hl : l.length ≤ 1050000) (st : Sto) : ∃ v', CallR ap 40 [v] st = some (.ret v', st) ∧ IntV l v' ∧ Clean v' := by
  obtain ⟨x, st1, v', a, b, c, d⟩ := app_copy (bytes := 8) (by omega) h hl (by omega) (fun i cs hf => by subst hf; exact fun y hy => by simp at hy; subst hy; exact clean_int _) st
  refine ⟨v', ?_, c, d⟩
  have h0 : (litS false 0 1 (fillA (fun i => some (i * 1, 1)) [] []) st) = some (.is [] 0 .full, st) := rfl
  rw [stencillaw0_CopyInts.call, stencillaw0_CopyInts.b_eq, h0]
  simp only [Option.bind_some, a, b]

/-- Instructions, as such rows. -/
theorem ins_el {c : List (Int × Int)} {v : AV} (h : InsV c v) : ElV 2 c.length (fun i cs => cs = [.int .i64 (c.getD i (0, 0)).1, .int .i64 (c.getD i (0, 0)).2]) v := by
  refine ⟨h.len, h.cell.1, by rcases h with ⟨_, rfl⟩ | ⟨_, _, rfl⟩ <;> rfl, fun i hi => ⟨_, ins_at h (x := c.getD i (0, 0)) ?_, rfl⟩⟩
  rw [List.getD_eq_getElem?_getD, List.getElem?_eq_getElem hi]
  rfl
theorem el_ins {c : List (Int × Int)} {v : AV} (h : ElV 2 c.length (fun i cs => cs = [.int .i64 (c.getD i (0, 0)).1, .int .i64 (c.getD i (0, 0)).2]) v) : InsV c v := by
  obtain ⟨row, t1, t2, t3, t4⟩ := el_tail h []
  have hrow : row = icells c := by
    apply List.ext_getElem?
    intro j
    have hic := icells_len c
    by_cases hj : j < c.length * 2
    · have hi : j / 2 < c.length := by omega
      have e := t4 (j / 2) hi
      have e1 : row[j]? = (((row.drop (j / 2 * 2)).take 2))[j % 2]? := by
        rw [List.getElem?_take_of_lt (by omega), List.getElem?_drop]
        congr 1
        omega
      obtain ⟨x, hx⟩ : ∃ x, c[j / 2]? = some x := ⟨_, List.getElem?_eq_getElem hi⟩
      have hsp : c = c.take (j / 2) ++ x :: c.drop (j / 2 + 1) := by
        have e := List.getElem?_eq_getElem hi
        rw [hx] at e
        cases e
        rw [← List.drop_eq_getElem_cons hi, List.take_append_drop]
      have hg : c.getD (j / 2) (0, 0) = x := by rw [List.getD_eq_getElem?_getD, hx]; rfl
      have ht : (icells (c.take (j / 2))).length = j / 2 * 2 := by rw [icells_len, List.length_take]; congr 1; omega
      have e2 : (icells c)[j]? = ([AV.int .i64 x.1, .int .i64 x.2])[j % 2]? := by
        have : icells c = icells (c.take (j / 2)) ++ icells (x :: c.drop (j / 2 + 1)) := by rw [← icells_app, ← hsp]
        rw [this, List.getElem?_append_right (by omega), ht]
        have hm : j - j / 2 * 2 = j % 2 := by omega
        rw [hm]
        have : j % 2 = 0 ∨ j % 2 = 1 := by omega
        rcases this with h0 | h0 <;> rw [h0] <;> rfl
      rw [e1, e, e2, hg]
    · rw [List.getElem?_eq_none (by omega), List.getElem?_eq_none (by omega)]
  have hv := h.2.2.1
  cases v with
  | nils =>
    have : c.length = 0 := by simpa [lenL] using h.1.symm
    exact .inl ⟨List.eq_nil_of_length_eq_zero this, rfl⟩
  | is r m tok =>
    have hm : m = c.length := by simpa [lenL] using h.1
    subst hm
    simp only [tailOf, Bool.false_eq_true, if_false, rowOf] at t1
    refine .inr ⟨r.drop (c.length * 2), tok, ?_⟩
    have hr : r.take (c.length * 2) = icells c := by
      split at t1
      · rename_i h0
        simp only [Option.bind_some, Option.some.injEq, Prod.mk.injEq, and_true] at t1
        rw [← hrow, ← t1, ← h0, List.take_length]
      · split at t1
        · simp only [Option.bind_some, Option.some.injEq, Prod.mk.injEq, and_true] at t1
          rw [← hrow, ← t1]
        · cases t1
    rw [← hr, List.take_append_drop]
  | _ => cases hv
theorem copyInsts_spec {c : List (Int × Int)} {v : AV} (h : InsV c v) (hl : c.length ≤ 1050000) (st : Sto) : ∃ v', CallR ap 26 [v] st = some (.ret v', st) ∧ InsV c v' ∧ Clean v' := by
  obtain ⟨x, st1, v', a, b, c', d⟩ := app_copy (bytes := 16) (by omega) (ins_el h) hl (by omega) (fun i cs hf => by
    subst hf
    exact fun y hy => by
      simp at hy
      rcases hy with rfl | rfl
      · exact clean_int _
      · exact clean_int _) st
  refine ⟨v', ?_, el_ins c', d⟩
  have h0 : (litS false 0 2 (fillA (fun i => some (i * 2, 2)) [] []) st) = some (.is [] 0 .full, st) := rfl
  rw [stencillaw0_CopyInsts.call, stencillaw0_CopyInsts.b_eq, h0]
  simp only [Option.bind_some, a, b]

/-! ### Operations -/
theorem agg_cells (cs : List AV) : AV.cells (.agg cs) = cs := rfl
theorem get_mid {st : Sto} {o z : Ob} : ((st ++ [o]) ++ [z])[st.length]? = some o := by
  rw [List.append_assoc]; simp
theorem set_mid {st : Sto} {o o' z : Ob} : ((st ++ [o]) ++ [z]).set st.length o' = (st ++ [o']) ++ [z] := by
  rw [List.set_append_left _ _ (by simp), last_set]
theorem sto_all {st : Sto} {id : Nat} {cs cs' : List AV} (h : st[id]? = some (.cells 0 cs 0)) (hc : cs'.all AV.isCell = true) {n : Nat} (hn : cs'.length = n) (hn' : cs.length = n) : sto n st (.mp id 0 0) (.agg cs') = some (st.set id (.cells 0 cs' 0)) := by
  have h2 : cs'.length ≤ cs.length := by omega
  have h4 : ((AV.agg cs').cells) = cs' := rfl
  unfold sto
  rw [h4, if_pos hn]
  simp only [stCells, h, h2, hc, Nat.le_refl, true_and, and_self, if_true, splice, List.take_zero, List.nil_append, Nat.zero_add]
  rw [List.drop_of_length_le (by omega), List.append_nil]
/-- A copy of what lies in two variables, handed back. -/
theorem two_ret {st : Sto} {cs z : List AV} {n : Nat} (hz : z.length = n) (hc : cs.length = n) (hall : cs.all AV.isCell = true) (hcl : Cleans cs) {b : Option Res}
    (hb : b = ((ld true n ((st ++ [Ob.cells 0 cs 0]) ++ [Ob.cells 0 z 0]) (.mp st.length 0 0)).bind fun v6 => (sto n ((st ++ [Ob.cells 0 cs 0]) ++ [Ob.cells 0 z 0]) (.mp (st.length + 1) 0 0) v6).bind fun s7 => (ld true n s7 (.mp (st.length + 1) 0 0)).bind fun v8 => some ⟨.ret v8, none, s7⟩)) :
    (b.bind fun r => some (gc st (r.out, r.st))) = some (.ret (.agg cs), st) := by
  have e1 : (st ++ [Ob.cells 0 cs 0]).length = st.length + 1 := by simp
  have hl : ((st ++ [Ob.cells 0 cs 0]) ++ [Ob.cells 0 z 0])[st.length + 1]? = some (.cells 0 z 0) := by rw [← e1]; exact last_get
  have hll := (List.getElem?_eq_some_iff.1 hl).1
  rw [m_all (g := 0) (fz := 0) get_mid hc, Option.bind_some, sto_all hl hall hc hz, Option.bind_some, m_all (g := 0) (fz := 0) (List.getElem?_set_self hll) hc, Option.bind_some] at hb
  refine ret_keep hb (clean_agg hcl _).1 (clean_agg hcl _).2 ?_
  rw [List.append_assoc]
  exact (Keeps.app (Nat.le_refl _)).trans (Keeps.set (by omega))

theorem oc_all {o : OpA} {lv : AV} (h : IntV o.l lv) : (oc o lv).all AV.isCell = true := by
  simp only [oc, List.all_cons, List.all_nil, h.2.1, Bool.and_true]
  rfl
theorem oc_clean {o : OpA} {lv : AV} (h : Clean lv) : Cleans (oc o lv) := fun v hv => by
  simp only [oc, List.mem_cons, List.not_mem_nil, or_false] at hv
  rcases hv with rfl | rfl | rfl | rfl | rfl
  · exact clean_int _
  · exact clean_int _
  · exact clean_int _
  · exact clean_int _
  · exact h
theorem copyOp_spec {o : OpA} {lv : AV} (h : IntV o.l lv) (hl : o.l.length ≤ 1050000) (st : Sto) : ∃ lv', CallR ap 51 [.agg (oc o lv)] st = some (.ret (.agg (oc o lv')), st) ∧ IntV o.l lv' ∧ Clean lv' := by
  obtain ⟨lv', c1, c2, c3⟩ := copyInts_spec h hl ((st ++ [Ob.cells 0 (oc o lv) 0]) ++ [Ob.cells 0 [.int .i64 0, .int .i64 0, .int .i64 0, .int .i64 0, .nils] 0])
  refine ⟨lv', ?_, c2, c3⟩
  rw [stencillaw0_CopyOp.call]
  refine two_ret (n := 5) (z := [.int .i64 0, .int .i64 0, .int .i64 0, .int .i64 0, .nils]) rfl rfl (oc_all c2) (oc_clean c3) ?_
  have e1 : (st ++ [Ob.cells 0 (oc o lv) 0]).length = st.length + 1 := by simp
  rw [stencillaw0_CopyOp.b_eq, agg_cells, e1]
  refine (it (oc_all h)).trans ?_
  refine (br (m_get (n := 4) (g := 0) (fz := 0) get_mid rfl)).trans ?_
  refine (cr c1).trans ?_
  refine (br (sto_at get_mid (by show 4 < 5; omega) c2.2.1 (isRowB_cells c2.2.2.1))).trans ?_
  rw [set_mid]
  rfl

theorem copyOps_loop {os : List OpA} {v : AV} (h : OpsV os v) (hl : os.length ≤ 1050000) (hll : ∀ i, (os.getD i default).l.length ≤ 1050000) (n0 : Nat) : ∀ (m i : Nat) (t : AV) (ms : List (List AV)) (st : Sto), i + m = os.length → n0 ≤ st.length → ms.length = i → (∀ j, j < i → OpC (os.getD j default) (ms.getD j [])) → (∀ x ∈ ms, x.length = 5 ∧ Cleans x) → BufT 5 n0 st t ms.flatten i →
    ∃ (t' : AV) (ms' : List (List AV)) (st' : Sto), stencillaw0_CopyOps.p110100 v t ((i : Nat) : Int) st = some ⟨.ret t', none, st'⟩ ∧ BufT 5 n0 st' t' ms'.flatten os.length ∧ ms'.length = os.length ∧ (∀ j, j < os.length → OpC (os.getD j default) (ms'.getD j [])) ∧ (∀ x ∈ ms', x.length = 5 ∧ Cleans x) ∧ Keeps n0 st st' := by
  intro m
  induction m with
  | zero =>
    intro i t ms st him hn hml hms hmc ht
    have hi : i = os.length := by omega
    subst hi
    refine ⟨t, ms, st, ?_, ht, hml, hms, hmc, Keeps.refl _ _⟩
    rw [stencillaw0_CopyOps.p110100_eq]
    refine (br h.1).trans ?_
    exact bf (dfalse (by omega))
  | succ m ih =>
    intro i t ms st him hn hml hms hmc ht
    have hi : i < os.length := by omega
    obtain ⟨cs, hia, lv, rfl, hlv⟩ := h.2.2.2 i hi
    have w1 : IntKind.wrap .i64 (((i : Nat) : Int) + 1) = ((i + 1 : Nat) : Int) := w64 _ (by omega) (by omega)
    obtain ⟨lv', c1, c2, c3⟩ := copyOp_spec hlv (hll i) st
    have hlit : (litS false 1 5 (fillA (fun i => some (i * 5, 5)) [.int .i64 0, .int .i64 0, .int .i64 0, .int .i64 0, .nils] [(0, .agg (oc (os.getD i default) lv'))]) st) = some (.is (oc (os.getD i default) lv') 1 .full, st) := by
      have : (fillA (fun i => some (i * 5, 5)) [.int .i64 0, .int .i64 0, .int .i64 0, .int .i64 0, .nils] [(0, .agg (oc (os.getD i default) lv'))]) = some (oc (os.getD i default) lv') := by
        simp only [fillA, agg_cells, oc_all c2]
        rfl
      rw [this]
      rfl
    have htl : tailOf false 5 st (.is (oc (os.getD i default) lv') 1 .full) = some (oc (os.getD i default) lv', 1) := rfl
    obtain ⟨t1, st1, a, b, c, d⟩ := bufT_add (bytes := 56) (str := false) ht hn htl (by omega) rfl (by simp [room]; omega)
    have hfl : ms.flatten ++ oc (os.getD i default) lv' = (ms ++ [oc (os.getD i default) lv']).flatten := by simp
    rw [hfl] at b
    obtain ⟨t', ms', st', e1, e2, e3, e4, e5, e6⟩ := ih (i + 1) t1 (ms ++ [oc (os.getD i default) lv']) st1 (by omega) (by omega) (by simp [hml]) (fun j hj => by
      by_cases hji : j < i
      · rw [gd_app (by omega)]
        exact hms j hji
      · have hj2 : j = ms.length := by omega
        rw [hj2, gd_last, hml]
        exact ⟨lv', rfl, c2⟩) (fun x hx => by
      rcases List.mem_append.1 hx with hx | hx
      · exact hmc x hx
      · simp at hx; subst hx; exact ⟨rfl, oc_clean c3⟩) b
    refine ⟨t', ms', st', ?_, e2, e3, e4, e5, c.trans e6⟩
    rw [stencillaw0_CopyOps.p110100_eq]
    refine (br h.1).trans ?_
    refine (bt (dtrue (by omega))).trans ?_
    refine (br hia).trans ?_
    refine (br (show ld true 5 st (.ip (oc (os.getD i default) lv)) = some (.agg (oc (os.getD i default) lv)) from rfl)).trans ?_
    refine (cr c1).trans ?_
    refine (br hlit).trans ?_
    refine (br a).trans ?_
    rw [w1]
    exact e1

/-- A row that is just as long as it says. -/
def Ex (w : Nat) (v : AV) : Prop := v = .nils ∨ ∃ row n, v = .is row n .no ∧ row.length = n * w
def ExB (x : List AV) : Prop := ∀ v, x[1]? = some v → Ex 5 v
/-- A grown row, forgotten how it may grow. -/
theorem buf_gc {w : Nat} (hw : 0 < w) {st st' : Sto} {t : AV} {ms : List (List AV)} {f : Nat → List AV → Prop} (ht : BufT w st.length st' t ms.flatten ms.length) (hl : ∀ m ∈ ms, m.length = w ∧ Cleans m) (hf : ∀ i, i < ms.length → f i (ms.getD i [])) (hk : Keeps st.length st st') : ∃ v, gc st (.ret t, st') = (.ret v, st) ∧ ElV w ms.length f v ∧ Clean v ∧ Ex w v := by
  rcases ht with ⟨rfl, h1, h2⟩ | ⟨i, g, hi, rfl, _, _⟩
  · have hm := List.eq_nil_of_length_eq_zero h2
    subst hm
    exact ⟨.nils, by rw [gc_strip rfl hk]; rfl, el_nil, clean_nils, .inl rfl⟩
  · have hcr : Cleans ms.flatten := clean_flat fun m hm => (hl m hm).2
    have hlt : ¬ i < st.length := by omega
    have hs : (AV.is ms.flatten ms.length (.tip i g w)).strip st.length = .is ms.flatten ms.length .no := by
      simp only [AV.strip, hcr.strips, Tok.strip, hlt, if_false]
    refine ⟨.is ms.flatten ms.length .no, ?_, el_row hw (fun m hm => (hl m hm).1) hf, clean_is hcr, .inr ⟨_, _, rfl, flat_len fun m hm => (hl m hm).1⟩⟩
    rw [gc_strip (by rw [hs]; exact (clean_is hcr _).2) hk, hs]
theorem copyOps_spec {os : List OpA} {v : AV} (h : OpsV os v) (hl : os.length ≤ 1050000) (hll : ∀ i, (os.getD i default).l.length ≤ 1050000) (st : Sto) : ∃ v', CallR ap 39 [v] st = some (.ret v', st) ∧ OpsV os v' ∧ Clean v' ∧ Ex 5 v' := by
  obtain ⟨t', ms', st', e1, e2, e3, e4, e5, e6⟩ := copyOps_loop h hl hll st.length os.length 0 .nils [] st (by omega) (Nat.le_refl _) rfl (fun j hj => absurd hj (by omega)) (by simp) (.inl ⟨rfl, rfl, rfl⟩)
  rw [← e3] at e2 e4
  obtain ⟨v', g1, g2, g3, g4⟩ := buf_gc (by omega) e2 e5 e4 e6
  refine ⟨v', ?_, by unfold OpsV; rw [← e3]; exact g2, g3, g4⟩
  rw [stencillaw0_CopyOps.call, stencillaw0_CopyOps.b_eq]
  have : stencillaw0_CopyOps.p110100 v .nils 0 st = _ := e1
  rw [this]
  simp only [Option.bind_some, g1]

/-! ### Blocks -/
theorem copyBlock_spec {b : BlA} {cs : List AV} (h : BlC b cs) (ho : b.ops.length ≤ 1050000) (hll : ∀ i, (b.ops.getD i default).l.length ≤ 1050000) (hu : b.upd.length ≤ 1050000) (st : Sto) : ∃ cs', CallR ap 28 [.agg cs] st = some (.ret (.agg cs'), st) ∧ BlC b cs' ∧ Cleans cs' ∧ cs'.length = 3 ∧ cs'.all AV.isCell = true ∧ ExB cs' := by
  obtain ⟨ov, uv, rfl, hov, huv⟩ := h
  have hall : ∀ {x y : AV}, x.isCell = true → y.isCell = true → ([AV.int .i64 b.depth, x, y]).all AV.isCell = true := fun hx hy => by
    simp only [List.all_cons, List.all_nil, hx, hy, Bool.and_true]
    rfl
  obtain ⟨ov', c1, c2, c3, c4⟩ := copyOps_spec hov ho hll ((st ++ [Ob.cells 0 [.int .i64 b.depth, ov, uv] 0]) ++ [Ob.cells 0 [.int .i64 0, .nils, .nils] 0])
  obtain ⟨uv', d1, d2, d3⟩ := copyInts_spec huv hu ((st ++ [Ob.cells 0 [.int .i64 b.depth, ov', uv] 0]) ++ [Ob.cells 0 [.int .i64 0, .nils, .nils] 0])
  have hcl : Cleans [.int .i64 b.depth, ov', uv'] := fun v hv => by
    simp only [List.mem_cons, List.not_mem_nil, or_false] at hv
    rcases hv with rfl | rfl | rfl
    · exact clean_int _
    · exact c3
    · exact d3
  refine ⟨[.int .i64 b.depth, ov', uv'], ?_, ⟨ov', uv', rfl, c2, d2⟩, hcl, rfl, hall c2.2.1 d2.2.1, fun v hv => by simp at hv; rw [← hv]; exact c4⟩
  rw [stencillaw0_CopyBlock.call]
  refine two_ret (n := 3) (z := [.int .i64 0, .nils, .nils]) rfl rfl (hall c2.2.1 d2.2.1) hcl ?_
  have e1 : (st ++ [Ob.cells 0 [.int .i64 b.depth, ov, uv] 0]).length = st.length + 1 := by simp
  rw [stencillaw0_CopyBlock.b_eq, agg_cells, e1]
  refine (it (hall hov.2.1 huv.2.1)).trans ?_
  refine (br (m_get (n := 1) (g := 0) (fz := 0) get_mid rfl)).trans ?_
  refine (cr c1).trans ?_
  refine (br (sto_at get_mid (by show 1 < 3; omega) c2.2.1 (isRowB_cells c2.2.2.1))).trans ?_
  rw [set_mid]
  refine (br (m_get (n := 2) (g := 0) (fz := 0) get_mid rfl)).trans ?_
  refine (cr d1).trans ?_
  refine (br (sto_at get_mid (by show 2 < 3; omega) d2.2.1 (isRowB_cells d2.2.2.1))).trans ?_
  rw [set_mid]
  rfl

/-- Rows in an object. -/
def BufM (w n : Nat) (st : Sto) (x : AV) (ms : List (List AV)) : Prop := (x = .nils ∧ ms = []) ∨ ∃ id g, n ≤ id ∧ x = .ms id g 0 ms.length w ∧ st[id]? = some (.cells g ms.flatten 0)
theorem bufM_add {w bytes n : Nat} {st : Sto} {x : AV} {ms : List (List AV)} {new : List AV} (h : BufM w n st x ms) (hn : n ≤ st.length) (hl : ∀ m ∈ ms, m.length = w) (hnew : new.length = w) (hr : room bytes (ms.length + 1) = true) :
    ∃ x' st', appL true false w bytes x (.is new 1 .full) st = some (x', st') ∧ BufM w n st' x' (ms ++ [new]) ∧ Keeps n st st' ∧ st.length ≤ st'.length := by
  have ht : tailOf false w st (.is new 1 .full) = some (new, 1) := by
    simp only [tailOf, Bool.false_eq_true, if_false, rowOf, Nat.one_mul, hnew, if_true]
    rfl
  unfold appL
  simp only [ht, Option.bind_some]
  rcases h with ⟨rfl, rfl⟩ | ⟨id, g, hid, rfl, hst⟩
  · have hr1 : room bytes 1 = true := hr
    simp only [hr1, if_true, show ¬ (1 = 0) by omega, if_false]
    exact ⟨_, _, rfl, .inr ⟨st.length, 0, hn, rfl, by simp⟩, Keeps.app hn, by simp⟩
  · have hfl := flat_len hl
    have hle : 0 + ms.length * w ≤ ms.flatten.length := by omega
    simp only [hr, true_and, if_true, hst, hle, and_self]
    have hidl := (List.getElem?_eq_some_iff.1 hst).1
    refine ⟨_, _, rfl, .inr ⟨id, g + 1, hid, by simp, ?_⟩, Keeps.set hid, by simp⟩
    rw [List.getElem?_set_self hidl, List.drop_zero, ← hfl, List.take_length]
    simp
theorem copyBlocks_loop {bs : List BlA} {v : AV} (h : BlsV bs v) (hl : bs.length ≤ 1050000) (hb : ∀ i, (bs.getD i default).ops.length ≤ 1050000 ∧ (bs.getD i default).upd.length ≤ 1050000 ∧ ∀ j, ((bs.getD i default).ops.getD j default).l.length ≤ 1050000) (n0 : Nat) : ∀ (m i : Nat) (t : AV) (ms : List (List AV)) (st : Sto), i + m = bs.length → n0 ≤ st.length → ms.length = i → (∀ j, j < i → BlC (bs.getD j default) (ms.getD j [])) → (∀ x ∈ ms, x.length = 3 ∧ Cleans x ∧ ExB x) → BufM 3 n0 st t ms →
    ∃ (t' : AV) (ms' : List (List AV)) (st' : Sto), stencillaw0_CopyBlocks.p110100 v t ((i : Nat) : Int) st = some ⟨.ret t', none, st'⟩ ∧ BufM 3 n0 st' t' ms' ∧ ms'.length = bs.length ∧ (∀ j, j < bs.length → BlC (bs.getD j default) (ms'.getD j [])) ∧ (∀ x ∈ ms', x.length = 3 ∧ Cleans x ∧ ExB x) ∧ Keeps n0 st st' := by
  intro m
  induction m with
  | zero =>
    intro i t ms st him hn hml hms hmc ht
    have hi : i = bs.length := by omega
    subst hi
    refine ⟨t, ms, st, ?_, ht, hml, hms, hmc, Keeps.refl _ _⟩
    rw [stencillaw0_CopyBlocks.p110100_eq]
    refine (br h.1).trans ?_
    exact bf (dfalse (by omega))
  | succ m ih =>
    intro i t ms st him hn hml hms hmc ht
    have hi : i < bs.length := by omega
    obtain ⟨cs, hia, hbl⟩ := h.2.2.2 i hi
    have w1 : IntKind.wrap .i64 (((i : Nat) : Int) + 1) = ((i + 1 : Nat) : Int) := w64 _ (by omega) (by omega)
    obtain ⟨cs', c1, c2, c3, c4, c5, c6⟩ := copyBlock_spec hbl (hb i).1 (hb i).2.2 (hb i).2.1 st
    have hl3 : cs.length = 3 := by obtain ⟨_, _, rfl, _⟩ := hbl; rfl
    have hld : ld true 3 st (.ip cs) = some (.agg cs) := by
      simp only [ld, ldCells, hl3, Nat.le_refl, if_true, Option.bind_some]
      rw [← hl3, List.take_length]
      rfl
    have hlit : (litS false 1 3 (fillA (fun i => some (i * 3, 3)) [.int .i64 0, .nils, .nils] [(0, .agg cs')]) st) = some (.is cs' 1 .full, st) := by
      have : (fillA (fun i => some (i * 3, 3)) [.int .i64 0, .nils, .nils] [(0, .agg cs')]) = some cs' := by
        obtain ⟨_, _, rfl, _⟩ := c2
        simp only [fillA, agg_cells, c5]
        rfl
      rw [this]
      rfl
    obtain ⟨t1, st1, a, b, c, d⟩ := bufM_add (bytes := 56) ht hn (fun x hx => (hmc x hx).1) c4 (by simp [room]; omega)
    obtain ⟨t', ms', st', e1, e2, e3, e4, e5, e6⟩ := ih (i + 1) t1 (ms ++ [cs']) st1 (by omega) (by omega) (by simp [hml]) (fun j hj => by
      by_cases hji : j < i
      · rw [gd_app (by omega)]
        exact hms j hji
      · have hj2 : j = ms.length := by omega
        rw [hj2, gd_last, hml]
        exact c2) (fun x hx => by
      rcases List.mem_append.1 hx with hx | hx
      · exact hmc x hx
      · simp at hx; subst hx; exact ⟨c4, c3, c6⟩) b
    refine ⟨t', ms', st', ?_, e2, e3, e4, e5, c.trans e6⟩
    rw [stencillaw0_CopyBlocks.p110100_eq]
    refine (br h.1).trans ?_
    refine (bt (dtrue (by omega))).trans ?_
    refine (br hia).trans ?_
    refine (br hld).trans ?_
    refine (cr c1).trans ?_
    refine (br hlit).trans ?_
    refine (br a).trans ?_
    rw [w1]
    exact e1
theorem copyBlocks_spec {bs : List BlA} {v : AV} (h : BlsV bs v) (hl : bs.length ≤ 1050000) (hb : ∀ i, (bs.getD i default).ops.length ≤ 1050000 ∧ (bs.getD i default).upd.length ≤ 1050000 ∧ ∀ j, ((bs.getD i default).ops.getD j default).l.length ≤ 1050000) (st : Sto) : ∃ (t : AV) (ms : List (List AV)) (st' : Sto), CallR ap 18 [v] st = some (.ret t, st') ∧ BufM 3 st.length st' t ms ∧ ms.length = bs.length ∧ (∀ j, j < bs.length → BlC (bs.getD j default) (ms.getD j [])) ∧ (∀ x ∈ ms, x.length = 3 ∧ Cleans x ∧ ExB x) ∧ Keeps st.length st st' := by
  obtain ⟨t, ms, st', e1, e2, e3, e4, e5, e6⟩ := copyBlocks_loop h hl hb st.length bs.length 0 .nils [] st (by omega) (Nat.le_refl _) rfl (fun j hj => absurd hj (by omega)) (by simp) (.inl ⟨rfl, rfl⟩)
  rw [stencillaw0_CopyBlocks.call, stencillaw0_CopyBlocks.b_eq]
  have e1' : stencillaw0_CopyBlocks.p110100 v .nils 0 st = _ := e1
  rw [e1']
  simp only [Option.bind_some]
  rcases e2 with ⟨rfl, rfl⟩ | ⟨id, g, hid, rfl, hst⟩
  · refine ⟨.nils, [], st, by rw [gc_keep rfl rfl e6], .inl ⟨rfl, rfl⟩, e3, e4, e5, Keeps.refl _ _⟩
  · refine ⟨_, ms, st', ?_, .inr ⟨id, g, hid, rfl, hst⟩, e3, e4, e5, e6⟩
    unfold gc
    rw [if_neg]
    rintro ⟨h, _⟩
    simp only [Out.val, AV.strip, AV.old, decide_eq_true_eq] at h
    omega

/-! ### Codes -/
theorem gcT_tip {row : List AV} {len id g es : Nat} {st st' : Sto} (hs : strips st.length row = row) (ho : olds st.length row = true) (hi : st.length ≤ id) (ht : st'[id]? = some (.tip g)) (hk : Keeps st.length st st') :
    gcT st (.ret (.is row len (.tip id g es)), st') = (.ret (.is row len (.tip st.length 0 es)), st ++ [.tip 0]) := by
  unfold gcT
  dsimp only
  rw [if_pos ⟨by rw [hs]; exact ho, hi, ht, hk.len, fun i hi => .inl (hk.at_ i hi)⟩, keeps_take hk, hs]
theorem gcT_nils {st st' : Sto} (hk : Keeps st.length st st') : gcT st (.ret .nils, st') = (.ret .nils, st) := by
  show gc st (.ret .nils, st') = _
  exact gc_keep rfl rfl hk
/-- A grown row, handed back with its tip. -/
theorem buf_gcT {w : Nat} {st st' : Sto} {t : AV} {cells : List AV} {len : Nat} (ht : BufT w st.length st' t cells len) (hc : Cleans cells) (hk : Keeps st.length st st') : ∃ t' st2, gcT st (.ret t, st') = (.ret t', st2) ∧ BufT w st.length st2 t' cells len ∧ Keeps st.length st st2 := by
  rcases ht with ⟨rfl, h1, h2⟩ | ⟨i, g, hi, rfl, hst, hl⟩
  · exact ⟨.nils, st, gcT_nils hk, .inl ⟨rfl, h1, h2⟩, Keeps.refl _ _⟩
  · exact ⟨_, _, gcT_tip (hc.strips _) (hc.olds _) hi hst hk, .inr ⟨st.length, 0, Nat.le_refl _, rfl, by simp, hl⟩, Keeps.app (Nat.le_refl _)⟩
def CdC (c : List (Int × Int)) (m : List AV) : Prop := ∃ w, m = [w] ∧ InsV c w
theorem copyCodes_loop {cs : List (List (Int × Int))} {v : AV} (h : CdV cs v) (hl : cs.length ≤ 1050000) (hb : ∀ i, (cs.getD i []).length ≤ 1050000) (n0 : Nat) : ∀ (m i : Nat) (t : AV) (ms : List (List AV)) (st : Sto), i + m = cs.length → n0 ≤ st.length → ms.length = i → (∀ j, j < i → CdC (cs.getD j []) (ms.getD j [])) → (∀ x ∈ ms, x.length = 1 ∧ Cleans x) → BufT 1 n0 st t ms.flatten i →
    ∃ (t' : AV) (ms' : List (List AV)) (st' : Sto), stencillaw0_CopyCodes.p110100 v t ((i : Nat) : Int) st = some ⟨.ret t', none, st'⟩ ∧ BufT 1 n0 st' t' ms'.flatten cs.length ∧ ms'.length = cs.length ∧ (∀ j, j < cs.length → CdC (cs.getD j []) (ms'.getD j [])) ∧ (∀ x ∈ ms', x.length = 1 ∧ Cleans x) ∧ Keeps n0 st st' := by
  intro m
  induction m with
  | zero =>
    intro i t ms st him hn hml hms hmc ht
    have hi : i = cs.length := by omega
    subst hi
    refine ⟨t, ms, st, ?_, ht, hml, hms, hmc, Keeps.refl _ _⟩
    rw [stencillaw0_CopyCodes.p110100_eq]
    refine (br h.1).trans ?_
    exact bf (dfalse (by omega))
  | succ m ih =>
    intro i t ms st him hn hml hms hmc ht
    have hi : i < cs.length := by omega
    obtain ⟨cc, hia, w, rfl, hw⟩ := h.2.2.2 i hi
    have w1 : IntKind.wrap .i64 (((i : Nat) : Int) + 1) = ((i + 1 : Nat) : Int) := w64 _ (by omega) (by omega)
    obtain ⟨w', c1, c2, c3⟩ := copyInsts_spec hw (hb i) st
    have hcell := c2.cell
    have hlit : (litS false 1 1 (fillA (fun i => some (i * 1, 1)) [.nils] [(0, w')]) st) = some (.is [w'] 1 .full, st) := by
      have : (fillA (fun i => some (i * 1, 1)) [.nils] [(0, w')]) = some [w'] := by
        have e2 : ([w']).all AV.isCell = true := by simp [hcell.1]
        simp only [fillA, hcell.2, e2]
        rfl
      rw [this]
      rfl
    have htl : tailOf false 1 st (.is [w'] 1 .full) = some ([w'], 1) := rfl
    obtain ⟨t1, st1, a, b, c, d⟩ := bufT_add (bytes := 24) (str := false) ht hn htl (by omega) rfl (by simp [room]; omega)
    have hfl : ms.flatten ++ [w'] = (ms ++ [[w']]).flatten := by simp
    rw [hfl] at b
    obtain ⟨t', ms', st', e1, e2, e3, e4, e5, e6⟩ := ih (i + 1) t1 (ms ++ [[w']]) st1 (by omega) (by omega) (by simp [hml]) (fun j hj => by
      by_cases hji : j < i
      · rw [gd_app (by omega)]
        exact hms j hji
      · have hj2 : j = ms.length := by omega
        rw [hj2, gd_last, hml]
        exact ⟨w', rfl, c2⟩) (fun x hx => by
      rcases List.mem_append.1 hx with hx | hx
      · exact hmc x hx
      · simp at hx; subst hx; exact ⟨rfl, fun y hy => by simp at hy; subst hy; exact c3⟩) b
    refine ⟨t', ms', st', ?_, e2, e3, e4, e5, c.trans e6⟩
    rw [stencillaw0_CopyCodes.p110100_eq]
    refine (br h.1).trans ?_
    refine (bt (dtrue (by omega))).trans ?_
    refine (br hia).trans ?_
    refine (br (l1 _ _)).trans ?_
    refine (cr c1).trans ?_
    refine (br hlit).trans ?_
    refine (br a).trans ?_
    rw [w1]
    exact e1
theorem copyCodes_spec {cs : List (List (Int × Int))} {v : AV} (h : CdV cs v) (hl : cs.length ≤ 1050000) (hb : ∀ i, (cs.getD i []).length ≤ 1050000) (st : Sto) : ∃ (t : AV) (ms : List (List AV)) (st' : Sto), CallR ap 16 [v] st = some (.ret t, st') ∧ BufT 1 st.length st' t ms.flatten cs.length ∧ ms.length = cs.length ∧ (∀ j, j < cs.length → CdC (cs.getD j []) (ms.getD j [])) ∧ (∀ x ∈ ms, x.length = 1 ∧ Cleans x) ∧ Keeps st.length st st' := by
  obtain ⟨t, ms, st', e1, e2, e3, e4, e5, e6⟩ := copyCodes_loop h hl hb st.length cs.length 0 .nils [] st (by omega) (Nat.le_refl _) rfl (fun j hj => absurd hj (by omega)) (by simp) (.inl ⟨rfl, rfl, rfl⟩)
  obtain ⟨t2, st2, g1, g2, g3⟩ := buf_gcT e2 (clean_flat fun m hm => (e5 m hm).2) e6
  refine ⟨t2, ms, st2, ?_, g2, e3, e4, e5, g3⟩
  rw [stencillaw0_CopyCodes.call, stencillaw0_CopyCodes.b_eq]
  have e1' : stencillaw0_CopyCodes.p110100 v .nils 0 st = _ := e1
  rw [e1']
  simp only [Option.bind_some, g1]

/-! ### Trees -/
def copyA (ats : List (ByteArray × ByteArray)) : AV := if ats.length = 0 then .is [] 0 .full else .is (acells ats) ats.length .no
def copyRow : Fo → List AV
  | .nil => []
  | .cons tag text ats kids rest => .str tag :: .str text :: copyA ats :: (if kids.len = 0 then .nils else .is (copyRow kids) kids.len .no) :: copyRow rest
theorem cleans_acells (ats : List (ByteArray × ByteArray)) : Cleans (acells ats) := by
  induction ats with
  | nil => intro v hv; simp [acells] at hv
  | cons x r ih =>
    intro v hv
    simp only [acells, List.mem_cons] at hv
    rcases hv with rfl | rfl | hv
    · exact clean_str _
    · exact clean_str _
    · exact ih v hv
theorem clean_copyA (ats : List (ByteArray × ByteArray)) : Clean (copyA ats) := by
  unfold copyA
  split
  · exact clean_full
  · exact clean_is (cleans_acells _)
theorem copyA_att (ats : List (ByteArray × ByteArray)) : AttV ats (copyA ats) := by
  unfold copyA
  split
  · rename_i h
    obtain rfl := List.eq_nil_of_length_eq_zero h
    exact .inr ⟨[], .full, rfl⟩
  · exact .inr ⟨[], .no, by simp⟩
def copyK (kids : Fo) : AV := if kids.len = 0 then .nils else .is (copyRow kids) kids.len .no
theorem cleans_copyRow (ts : Fo) : Cleans (copyRow ts) := by
  induction ts with
  | nil => intro v hv; simp [copyRow] at hv
  | cons tag text ats kids rest ihk ihr =>
    intro v hv
    simp only [copyRow, List.mem_cons] at hv
    rcases hv with rfl | rfl | rfl | rfl | hv
    · exact clean_str _
    · exact clean_str _
    · exact clean_copyA _
    · split
      · exact clean_nils
      · exact clean_is ihk
    · exact ihr v hv
theorem clean_copyK (kids : Fo) : Clean (copyK kids) := by
  unfold copyK
  split
  · exact clean_nils
  · exact clean_is (cleans_copyRow _)
theorem copyRow_row (ts : Fo) : ∀ r, Row ts (copyRow ts ++ r) := by
  induction ts with
  | nil => intro r; trivial
  | cons tag text ats kids rest ihk ihr =>
    intro r
    refine ⟨_, _, _, rfl, copyA_att _, ?_, ihr r⟩
    by_cases h : kids.len = 0
    · exact .inl ⟨h, if_pos h⟩
    · refine .inr ⟨copyRow kids, .no, if_neg h, ?_⟩
      have := ihk []
      rwa [List.append_nil] at this
theorem copyRow_len (ts : Fo) : (copyRow ts).length = ts.len * 4 := by
  induction ts with
  | nil => rfl
  | cons tag text ats kids rest ihk ihr => simp only [copyRow, List.length_cons, ihr, Fo.len]; omega
theorem copyAttrs_spec {ats : List (ByteArray × ByteArray)} {a : AV} (ha : AttV ats a) (hs : asz ats ≤ 1050000) (st : Sto) : CallR ap 38 [a] st = some (.ret (copyA ats), st) := by
  have hl := asz_len ats
  have hal := acells_len ats
  have ht : tailOf false 2 st a = some (acells ats, ats.length) := by
    rcases ha with ⟨rfl, rfl⟩ | ⟨rest, tok, rfl⟩
    · rfl
    · simp only [tailOf, Bool.false_eq_true, if_false, rowOf, List.length_append, hal]
      by_cases h0 : rest.length = 0
      · have : rest = [] := List.eq_nil_of_length_eq_zero h0
        subst this
        simp
      · rw [if_neg (by omega), if_pos (by omega), ← hal, List.take_left]
        rfl
  have h0 : (litS false 0 2 (fillA (fun i => some (i * 2, 2)) [] []) st) = some (.is [] 0 .full, st) := rfl
  rw [stencillaw0_CopyAttrs.call, stencillaw0_CopyAttrs.b_eq, h0]
  simp only [Option.bind_some, appL, ht]
  unfold copyA
  by_cases hz : ats.length = 0
  · simp only [hz, if_true, Option.bind_some]
    rw [gc_keep rfl rfl (Keeps.refl _ _)]
  · have hroom : room 32 ats.length = true := by simp [room]; omega
    simp only [hz, if_false, List.length_nil, Nat.zero_mul, Nat.zero_add, hroom, and_self, if_true, List.nil_append, Bool.false_eq_true, Option.bind_some]
    have hlt : ¬ st.length < st.length := by omega
    have hst : (AV.is (acells ats) ats.length (.tip st.length 0 2)).strip st.length = .is (acells ats) ats.length .no := by
      simp only [AV.strip, (cleans_acells ats).strips, Tok.strip, hlt, if_false]
    rw [gc_strip (by rw [hst]; exact (clean_is (cleans_acells ats) _).2) (Keeps.app (Nat.le_refl _)), hst]

def CopyOk (ts : Fo) : Prop := ∀ (row : List AV) (n i : Nat) (tok : Tok) (st : Sto) (nn : Nat) (x : AV) (pre : List AV), Row ts (row.drop (i * 4)) → n = i + ts.len → ts.sz ≤ 1050000 → n ≤ 1050000 → nn ≤ st.length → BufT 4 nn st x pre i →
  ∃ x' st', stencillaw0_CopyTrees.p110100 (.is row n tok) x ((i : Nat) : Int) st = some ⟨.ret x', none, st'⟩ ∧ BufT 4 nn st' x' (pre ++ copyRow ts) n ∧ Keeps nn st st'
theorem copy_of {ts : Fo} (H : CopyOk ts) {v : AV} (hv : FoV ts v) (hs : ts.sz ≤ 1050000) (st : Sto) : ∃ x st', CallR ap 17 [v] st = some (.ret x, st') ∧ BufT 4 st.length st' x (copyRow ts) ts.len ∧ Keeps st.length st st' := by
  have hl := len_sz ts
  have key : ∃ x st', stencillaw0_CopyTrees.b v st = some ⟨.ret x, none, st'⟩ ∧ BufT 4 st.length st' x (copyRow ts) ts.len ∧ Keeps st.length st st' := by
    rw [stencillaw0_CopyTrees.b_eq]
    rcases hv with ⟨h0, rfl⟩ | ⟨row, tok, rfl, hr⟩
    · obtain rfl := len_nil h0
      refine ⟨.nils, st, ?_, .inl ⟨rfl, rfl, rfl⟩, Keeps.refl _ _⟩
      rw [stencillaw0_CopyTrees.p110100_eq]
      rfl
    · exact H row ts.len 0 tok st st.length .nils [] (by simpa using hr) (by omega) hs (by omega) (Nat.le_refl _) (.inl ⟨rfl, rfl, rfl⟩)
  obtain ⟨x, st', h1, h2, h3⟩ := key
  obtain ⟨t2, st2, g1, g2, g3⟩ := buf_gcT h2 (cleans_copyRow ts) h3
  refine ⟨t2, st2, ?_, g2, g3⟩
  rw [stencillaw0_CopyTrees.call, h1]
  simp only [Option.bind_some, g1]
theorem copy_nil_nils {k : AV} (hk : FoV .nil k) (st : Sto) : CallR ap 17 [k] st = some (.ret .nils, st) := by
  have hb : stencillaw0_CopyTrees.b k st = some ⟨.ret .nils, none, st⟩ := by
    rw [stencillaw0_CopyTrees.b_eq, stencillaw0_CopyTrees.p110100_eq]
    refine (br hk.len).trans ?_
    exact bf (dfalse (by simp [Fo.len]))
  rw [stencillaw0_CopyTrees.call, hb]
  simp only [Option.bind_some, gcT_nils (Keeps.refl _ _)]
theorem copyTree_of {tag text : ByteArray} {ats : List (ByteArray × ByteArray)} {kids : Fo} (H : CopyOk kids) {a k : AV} (ha : AttV ats a) (hk : FoV kids k) (hs : asz ats ≤ 1050000) (hs2 : kids.sz ≤ 1050000) (st : Sto) :
    CallR ap 27 [.agg [.str tag, .str text, a, k]] st = some (.ret (.agg [.str tag, .str text, copyA ats, copyK kids]), st) := by
  have hac : a.isCell = true := by rcases ha with ⟨_, rfl⟩ | ⟨_, _, rfl⟩ <;> rfl
  have hkc : k.isCell = true := by rcases hk with ⟨_, rfl⟩ | ⟨_, _, rfl, _⟩ <;> rfl
  have hall : ∀ {x y : AV}, x.isCell = true → y.isCell = true → ([AV.str tag, .str text, x, y]).all AV.isCell = true := fun hx hy => by
    simp only [List.all_cons, List.all_nil, hx, hy, Bool.and_true]
    rfl
  have hcA : (copyA ats).isCell = true ∧ (copyA ats).cells = [copyA ats] := by unfold copyA; split <;> exact ⟨rfl, rfl⟩
  obtain ⟨z, hz⟩ : ∃ z : Ob, z = Ob.cells 0 [.str ⟨#[]⟩, .str ⟨#[]⟩, .nils, .nils] 0 := ⟨_, rfl⟩
  have c1 := copyAttrs_spec ha hs ((st ++ [Ob.cells 0 [.str tag, .str text, a, k] 0]) ++ [z])
  obtain ⟨S1, hS1⟩ : ∃ S1, S1 = (st ++ [Ob.cells 0 [.str tag, .str text, copyA ats, k] 0]) ++ [z] := ⟨_, rfl⟩
  have hl1 : S1.length = st.length + 2 := by rw [hS1]; simp
  obtain ⟨x2, S2, d1, d2, d3⟩ := copy_of H hk hs2 S1
  have hx2 : x2.isCell = true ∧ x2.cells = [x2] ∧ x2.strip st.length = copyK kids := by
    unfold copyK
    rcases d2 with ⟨rfl, e1, e2⟩ | ⟨i, g, hi, rfl, _, e2⟩
    · rw [if_pos e2]; exact ⟨rfl, rfl, rfl⟩
    · refine ⟨rfl, rfl, ?_⟩
      have hlt : ¬ i < st.length := by omega
      by_cases h0 : kids.len = 0
      · exfalso
        -- a row of nothing has no tip
        obtain rfl := len_nil h0
        have := copy_nil_nils hk S1
        rw [this] at d1
        simp at d1
      · rw [if_neg h0]
        simp only [AV.strip, (cleans_copyRow kids).strips, Tok.strip, hlt, if_false]
  obtain ⟨q1, q2, q3⟩ := hx2
  have g0 : S1[st.length]? = some (.cells 0 [.str tag, .str text, copyA ats, k] 0) := by rw [hS1]; exact get_mid
  have gz : S1[st.length + 1]? = some z := by
    rw [hS1, show st.length + 1 = (st ++ [Ob.cells 0 [AV.str tag, .str text, copyA ats, k] 0]).length by simp]
    exact last_get
  have g2 : S2[st.length]? = some (.cells 0 [.str tag, .str text, copyA ats, k] 0) := by rw [d3.at_ _ (by omega)]; exact g0
  have gz2 : S2[st.length + 1]? = some (.cells 0 [.str ⟨#[]⟩, .str ⟨#[]⟩, .nils, .nils] 0) := by rw [d3.at_ _ (by omega), gz, hz]
  have hl2 := d3.len
  obtain ⟨S3, hS3⟩ : ∃ S3, S3 = S2.set st.length (.cells 0 [.str tag, .str text, copyA ats, x2] 0) := ⟨_, rfl⟩
  have s2 : sto 1 S2 (.mp st.length 0 3) x2 = some S3 := by rw [sto_at g2 (by show 3 < 4; omega) q1 q2, hS3]; rfl
  have g3 : S3[st.length]? = some (.cells 0 [.str tag, .str text, copyA ats, x2] 0) := by rw [hS3]; exact List.getElem?_set_self (by omega)
  have gz3 : S3[st.length + 1]? = some (.cells 0 [.str ⟨#[]⟩, .str ⟨#[]⟩, .nils, .nils] 0) := by rw [hS3, List.getElem?_set_ne (by omega)]; exact gz2
  have hl3 : S3.length = S2.length := by rw [hS3]; simp
  have s3 := sto_all gz3 (hall hcA.1 q1) (n := 4) rfl rfl
  have hb : stencillaw0_CopyTree.b (.agg [.str tag, .str text, a, k]) st = some ⟨.ret (.agg [.str tag, .str text, copyA ats, x2]), none, S3.set (st.length + 1) (.cells 0 [.str tag, .str text, copyA ats, x2] 0)⟩ := by
    have e1 : (st ++ [Ob.cells 0 [.str tag, .str text, a, k] 0]).length = st.length + 1 := by simp
    rw [stencillaw0_CopyTree.b_eq, agg_cells, e1, ← hz]
    refine (it (hall hac hkc)).trans ?_
    refine (br (m_get (n := 2) (g := 0) (fz := 0) get_mid rfl)).trans ?_
    refine (cr c1).trans ?_
    refine (br (sto_at get_mid (by show 2 < 4; omega) hcA.1 hcA.2)).trans ?_
    rw [set_mid, show ([AV.str tag, .str text, a, k]).set 2 (copyA ats) = [.str tag, .str text, copyA ats, k] from rfl, ← hS1]
    refine (br (m_get (n := 3) g0 rfl)).trans ?_
    refine (cr d1).trans ?_
    refine (br s2).trans ?_
    refine (br (m_all g3 rfl)).trans ?_
    refine (br s3).trans ?_
    exact br (m_all (List.getElem?_set_self (by omega)) rfl)
  rw [stencillaw0_CopyTree.call, hb]
  simp only [Option.bind_some]
  have hst : (AV.agg [.str tag, .str text, copyA ats, x2]).strip st.length = .agg [.str tag, .str text, copyA ats, copyK kids] := by
    simp only [AV.strip, strips, (clean_copyA ats _).1, q3]
  rw [gc_strip (by
    rw [hst]
    simp only [AV.old, olds, (clean_copyA ats _).2, (clean_copyK kids _).2, Bool.and_self]) ⟨by rw [List.length_set]; omega, fun i hi => by
    rw [List.getElem?_set_ne (by omega), hS3, List.getElem?_set_ne (by omega), d3.at_ i (by omega), hS1, List.append_assoc, List.getElem?_append_left hi]⟩, hst]

theorem copy_all (ts : Fo) : CopyOk ts := by
  induction ts with
  | nil =>
    intro row n i tok st nn x pre hr hn hs hb hnn hx
    simp only [Fo.len, Nat.add_zero] at hn
    subst hn
    rw [stencillaw0_CopyTrees.p110100_eq]
    refine ⟨x, st, ?_, by rw [copyRow, List.append_nil]; exact hx, Keeps.refl _ _⟩
    simp only [lenL, Option.bind_some, Int.lt_irrefl, decide_false, cond_false]
  | cons tag text ats kids rest ihk ihr =>
    intro row n i tok st nn x pre hr hn hs hb hnn hx
    simp only [Fo.len] at hn
    simp only [Fo.sz] at hs
    obtain ⟨a, k, ha, hk, hr', hlen, hia⟩ := row_at hr
    have hia := hia n tok (by omega)
    have wi : IntKind.wrap .i64 ((i : Int) + 1) = ((i + 1 : Nat) : Int) := w64 _ (by omega) (by omega)
    have hlt : (((i : Nat) : Int) < ((n : Nat) : Int)) := by omega
    have hcell : ([AV.str tag, .str text, copyA ats, copyK kids]).all AV.isCell = true := by
      have h1 : (copyA ats).isCell = true := by unfold copyA; split <;> rfl
      have h2 : (copyK kids).isCell = true := by unfold copyK; split <;> rfl
      rw [List.all_cons, List.all_cons, List.all_cons, List.all_cons, h1, h2]
      rfl
    have htl : tailOf false 4 st (.is [AV.str tag, .str text, copyA ats, copyK kids] 1 .full) = some ([AV.str tag, .str text, copyA ats, copyK kids], 1) := rfl
    obtain ⟨x1, s1, h1, h2, h3, h4⟩ := bufT_add (bytes := 80) (str := false) hx hnn htl (by omega) rfl (by simp [room]; omega)
    obtain ⟨x', st', m1, m2, m3⟩ := ihr row n (i + 1) tok s1 nn x1 _ hr' (by omega) (by omega) hb (by omega) h2
    have hlit : (litS false 1 4 (fillA (fun i => some (i * 4, 4)) [.str ⟨#[]⟩, .str ⟨#[]⟩, .nils, .nils] [(0, .agg [.str tag, .str text, copyA ats, copyK kids])]) st) = some (.is [.str tag, .str text, copyA ats, copyK kids] 1 .full, st) := by
      have : (fillA (fun i => some (i * 4, 4)) [.str ⟨#[]⟩, .str ⟨#[]⟩, .nils, .nils] [(0, .agg [.str tag, .str text, copyA ats, copyK kids])]) = some [.str tag, .str text, copyA ats, copyK kids] := by
        simp only [fillA, agg_cells, hcell]
        rfl
      rw [this]
      rfl
    refine ⟨x', st', ?_, ?_, h3.trans m3⟩
    · rw [stencillaw0_CopyTrees.p110100_eq]
      refine (br (show lenL (.is row n tok) = some n from rfl)).trans ?_
      refine (bt (dtrue hlt)).trans ?_
      refine (br hia).trans ?_
      refine (br (l4 _ _ _ _ _)).trans ?_
      refine (cr (copyTree_of ihk ha hk (by omega) (by omega) st)).trans ?_
      refine (br hlit).trans ?_
      refine (br h1).trans ?_
      rw [wi]
      exact m1
    · have : pre ++ copyRow (.cons tag text ats kids rest) = (pre ++ [AV.str tag, .str text, copyA ats, copyK kids]) ++ copyRow rest := by
        simp [copyRow, copyK]
      rw [this]
      exact m2
theorem copyTrees_spec {ts : Fo} {v : AV} (hv : FoV ts v) (hs : ts.sz ≤ 1050000) (st : Sto) : ∃ x st', CallR ap 17 [v] st = some (.ret x, st') ∧ BufT 4 st.length st' x (copyRow ts) ts.len ∧ Keeps st.length st st' := copy_of (copy_all ts) hv hs st
end Go.Proofs.YtcgepgahgihojaaDoor
