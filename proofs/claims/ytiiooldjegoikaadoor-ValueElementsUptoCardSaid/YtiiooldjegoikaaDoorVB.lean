/- Values: awake; out of what is read; the laws of checks, of texts. -/
import Derived.Test.YtiiooldjegoikaaDoorVS
namespace Go.Proofs.YtiiooldjegoikaaDoor
open Go.St Go.Lib
set_option linter.unusedVariables false
set_option linter.unusedSimpArgs false

theorem scan_ascii {s : ByteArray} (h : ∀ i, i < s.size → bat s i < 128) : ∀ (m i : Nat), i + m = s.size → Scan s i none := by
  intro m
  induction m with
  | zero => intro i hi; exact .done i (by omega)
  | succ m ih =>
    intro i hi
    have hb := h i (by omega)
    have hd : dec s i = (bat s i, 1) := by
      rw [dec_eq]
      rcases decodeN_cases (s.size - i) (bat s i) (bat s (i + 1)) (bat s (i + 2)) (bat s (i + 3)) (bat_lt _ _) with ⟨h0, h⟩ | ⟨h0, h⟩ | h
      all_goals first | exact h | (exfalso; omega) | skip
    refine .step i none (by omega) ?_ (by rw [hd]; exact ih (i + 1) (by omega))
    unfold Bad
    omega
theorem ok_empty : okT ⟨#[]⟩ = true := by
  have h : Scan ⟨#[]⟩ 0 none := .done 0 rfl
  have h2 : (ByteArray.mk #[]).size ≤ 4096 := by decide
  unfold okT
  simp only [h, h2, decide_true, Bool.and_self]
theorem ok_a : okT ⟨#[97]⟩ = true := by
  have h : Scan ⟨#[97]⟩ 0 none := scan_ascii (by
    have : ∀ i : Fin 1, bat ⟨#[97]⟩ i.1 < 128 := by decide
    exact fun i hi => this ⟨i, hi⟩) 1 0 rfl
  have h2 : (ByteArray.mk #[97]).size ≤ 4096 := by decide
  unfold okT
  simp only [h, h2, decide_true, Bool.and_self]

def numH (n : Int) : Hd := ⟨3, false, n, ⟨#[]⟩, []⟩
theorem num5_spec (n : Int) (st : Sto) : CallR ap 42 [.int .i64 n] st = some (.ret (.agg (hcells (numH n) .nils .nils)), st) := by
  have h1 : (aggA (fillA (fun i => ([(0, 1), (1, 1), (2, 1), (3, 1), (4, 1), (5, 1)] : List (Nat × Nat))[i]?) [.int .i64 0, .bool false, .int .i64 0, .str ⟨#[]⟩, .nils, .nils] [(0, (.int .i64 3)), (2, (.int .i64 n))])) = some (.agg (hcells (numH n) .nils .nils)) := rfl
  have h2 : sto 6 (st ++ [Ob.cells 0 [.int .i64 0, .bool false, .int .i64 0, .str ⟨#[]⟩, .nils, .nils] 0]) (.mp st.length 0 0) (.agg (hcells (numH n) .nils .nils)) = some (st ++ [Ob.cells 0 (hcells (numH n) .nils .nils) 0]) := m_new (cs := zeroV) (cs' := hcells (numH n) .nils .nils) rfl rfl rfl
  have h3 : ld true 6 (st ++ [Ob.cells 0 (hcells (numH n) .nils .nils) 0]) (.mp st.length 0 0) = some (.agg (hcells (numH n) .nils .nils)) := m_all (g := 0) (fz := 0) (by simp) rfl
  rw [stencillaw5_num.call]
  refine ret_keep (st' := st ++ [Ob.cells 0 (hcells (numH n) .nils .nils) 0]) ?_ rfl rfl (Keeps.app (Nat.le_refl _))
  rw [stencillaw5_num.b_eq]
  simp only [h1, Option.bind_some, h2, h3]
theorem leaf_one (h : Hd) (hn : In h.n) (hm : h.names = []) : One h .nil (hcells h .nils .nils) := ⟨.nils, .nils, rfl, hn, .inl ⟨hm, rfl⟩, .inl ⟨rfl, rfl⟩⟩

def wakeH : Hd := ⟨6, false, 0, ⟨#[]⟩, [⟨#[97]⟩]⟩
def wakeP : Va := .cons (numH 3) .nil .nil
def wakeC : List AV := hcells wakeH (.is [.str ⟨#[97]⟩] 1 .full) (.is (hcells (numH 3) .nils .nils) 1 .full)
theorem wake_one : One wakeH wakeP wakeC := by
  refine ⟨_, _, rfl, by unfold In; simp [wakeH], NamV.mk [⟨#[97]⟩] .full rfl, .inr ⟨hcells (numH 3) .nils .nils, .full, rfl, .nils, .nils, [], by simp, by unfold In; simp [numH], .inl ⟨rfl, rfl⟩, .inl ⟨rfl, rfl⟩, trivial⟩⟩
theorem wake_sz : (Va.cons wakeH wakeP .nil).sz ≤ 1050000 := by decide
theorem alone_num (n : Int) : alone (numH n) 0 = true := by simp [alone, numH, namesB, ok_empty]
theorem alone_wake : alone wakeH 1 = true := by simp [alone, wakeH, namesB, ok_empty, ok_a]
theorem lk_num (n : Int) (m d : Nat) (hm : m ≤ 100) (hd : d ≤ 20) : lkL (.cons (numH n) .nil .nil) m d = (m + 1, 0) := by
  have : fault m d (numH n) 0 = 0 := by
    unfold fault
    rw [if_neg (by omega), if_neg (by omega), if_neg (by simp [numH]), if_pos (alone_num n)]
  simp [lkL, Va.len, this]
theorem lk_wake : lkL (.cons wakeH wakeP .nil) 0 1 = (2, 0) := by
  have : fault 0 1 wakeH wakeP.len = 0 := by
    unfold fault
    rw [if_neg (by omega), if_neg (by omega), if_neg (by simp [wakeH]), if_pos (show alone wakeH wakeP.len = true from alone_wake)]
  have h2 := lk_num 3 1 2 (by omega) (by omega)
  simp only [lkL, this, if_true]
  show (if (lkL wakeP (0 + 1) (1 + 1)).2 = 0 then ((lkL wakeP (0 + 1) (1 + 1)).1, 0) else lkL wakeP (0 + 1) (1 + 1)) = (2, 0)
  unfold wakeP
  rw [h2]
  rfl
theorem code_wake : codeC wakeH wakeP = 0 := by rw [codeC_eq, lk_wake]
theorem count_wake : countC wakeH wakeP = 2 := by rw [countC_eq, lk_wake]; rfl
theorem depth_wake : depthC wakeH wakeP = 2 := by rw [depthC_eq, lk_wake]; rfl
def badH : Hd := ⟨9, false, 0, ⟨#[]⟩, []⟩
theorem code_bad : codeC badH .nil = 500 := by
  have : fault 0 1 badH 0 = 500 := by
    unfold fault
    rw [if_neg (by omega), if_neg (by omega), if_pos (by simp [badH])]
  rw [codeC_eq]
  simp [lkL, Va.len, this]
theorem text_m5 : textAV (numH (-5)) = .tup [.str ⟨#[45, 53]⟩, .int .i64 0] := by
  have : itoa (-5) = [45, 53] := by
    unfold itoa
    simp [dec_small]
  simp [textAV, textOut, numH, this, mk]
theorem find_a : findP ⟨#[97]⟩ [⟨#[97]⟩] = some 0 := by simp [findP]
theorem field_wake : fieldOf5 wakeH wakeP ⟨#[97]⟩ = some (numH 3, .nil) := by
  simp [fieldOf5, wakeH, find_a, wakeP, Va.len, Va.get]

theorem one_leaf {n : Int} {es : List AV} (h : One (numH n) .nil es) : ∃ a p, es = hcells (numH n) a p := by
  obtain ⟨a, p, rfl, _⟩ := h
  exact ⟨a, p, rfl⟩

/-- The element that Field finds there. -/
theorem field_awake (st : Sto) : CallR ap 27 [.agg wakeC, .str ⟨#[97]⟩] st = some (.ret (.tup [.agg (hcells (numH 3) .nils .nils), .int .i64 0]), st) := by
  obtain ⟨S, hSe⟩ : ∃ S, S = (st ++ [Ob.cells 0 wakeC 0]) ++ [Ob.cells 0 zeroV 0] := ⟨_, rfl⟩
  have e1 : (st ++ [Ob.cells 0 wakeC 0]).length = st.length + 1 := by simp
  have ez : [AV.int .i64 0, .bool false, .int .i64 0, .str ⟨#[]⟩, .nils, .nils] = zeroV := rfl
  have hS : S[st.length]? = some (.cells 0 wakeC 0) := by rw [hSe]; exact get_mid
  have hS1 : S[st.length + 1]? = some (.cells 0 zeroV 0) := by rw [hSe, ← e1]; exact get_last
  have hk : Keeps st.length st S := by rw [hSe, List.append_assoc]; exact Keeps.app (Nat.le_refl _)
  have g0 : ld false 1 S (.mp st.length 0 0) = some (.int .i64 6) := m_get hS rfl
  have g4 : ld false 1 S (.mp st.length 0 4) = some (.is [.str ⟨#[97]⟩] 1 .full) := m_get hS rfl
  have g5 : ld false 1 S (.mp st.length 0 5) = some (.is (hcells (numH 3) .nils .nils) 1 .full) := m_get hS rfl
  have hsl : st.length + 1 < S.length := by rw [hSe]; simp
  have hidx := index_spec (NamV.mk [⟨#[97]⟩] .full rfl) (by simp) ⟨#[97]⟩ S
  rw [find_a] at hidx
  have hidx : CallR ap 48 [.is [.str ⟨#[97]⟩] 1 .full, .str ⟨#[97]⟩] S = some (.ret (.int .i64 0), S) := hidx
  have hia : ia 6 (.is (hcells (numH 3) .nils .nils) 1 .full) (.int .i64 0) = some (.ip (hcells (numH 3) .nils .nils)) := rfl
  have l6 : ld true 6 S (.ip (hcells (numH 3) .nils .nils)) = some (.agg (hcells (numH 3) .nils .nils)) := rfl
  have o1 : sto 6 S (.mp (st.length + 1) 0 0) (.agg (hcells (numH 3) .nils .nils)) = some (S.set (st.length + 1) (.cells 0 (hcells (numH 3) .nils .nils) 0)) := sto_all hS1 rfl rfl rfl
  have o2 : ld true 6 (S.set (st.length + 1) (.cells 0 (hcells (numH 3) .nils .nils) 0)) (.mp (st.length + 1) 0 0) = some (.agg (hcells (numH 3) .nils .nils)) := m_all (List.getElem?_set_self hsl) rfl
  rw [value_Field.call]
  refine ret_keep (st' := S.set (st.length + 1) (.cells 0 (hcells (numH 3) .nils .nils) 0)) ?_ rfl rfl (hk.trans (Keeps.set (by omega)))
  rw [value_Field.b_eq, agg_cells, if_pos wake_one.all, ez, ← hSe, e1]
  have hlen : lenL (.is (hcells (numH 3) .nils .nils) 1 .full) = some 1 := rfl
  have d1 : decide ((0 : Int) ≤ 0) = true := rfl
  have d2 : decide ((0 : Int) < ((1 : Nat) : Int)) = true := rfl
  simp only [g0, g4, g5, Option.bind_some, asI, if_true, decide_true, cond_true, hidx, Out.on, d1, d2, hlen, value_Field.p101011_eq, hia, l6, copied_leaf, o1, o2]

theorem awakeV (st : Sto) : CallR ap 19 [] st = some (.ret (.bool true), st) := by
  rw [stencillaw5_awake.call]
  suffices hb : ∃ st', stencillaw5_awake.b st = some ⟨.ret (.bool true), none, st'⟩ ∧ Keeps st.length st st' by
    obtain ⟨st', k1, k2⟩ := hb
    exact ret_keep k1 rfl rfl k2
  have ez : [AV.int .i64 0, .bool false, .int .i64 0, .str ⟨#[]⟩, .nils, .nils] = zeroV := rfl
  have c1 : (litS false 1 1 (fillA (fun i => some (i * 1, 1)) [.str ⟨#[]⟩] [(0, (.str ⟨#[97]⟩))]) st) = some (.is [.str ⟨#[97]⟩] 1 .full, st) := rfl
  have c2 : (litS false 1 6 (fillA (fun i => some (i * 6, 6)) zeroV [(0, .agg (hcells (numH 3) .nils .nils))]) st) = some (.is (hcells (numH 3) .nils .nils) 1 .full, st) := rfl
  have c3 : (aggA (fillA (fun i => ([(0, 1), (1, 1), (2, 1), (3, 1), (4, 1), (5, 1)] : List (Nat × Nat))[i]?) zeroV [(0, (.int .i64 6)), (4, .is [.str ⟨#[97]⟩] 1 .full), (5, .is (hcells (numH 3) .nils .nils) 1 .full)])) = some (.agg wakeC) := rfl
  have c9 : (aggA (fillA (fun i => ([(0, 1), (1, 1), (2, 1), (3, 1), (4, 1), (5, 1)] : List (Nat × Nat))[i]?) zeroV [(0, (.int .i64 9))])) = some (.agg (hcells badH .nils .nils)) := rfl
  obtain ⟨A, hA⟩ : ∃ A, A = st ++ [Ob.cells 0 wakeC 0] := ⟨_, rfl⟩
  have sA : sto 6 (st ++ [Ob.cells 0 zeroV 0]) (.mp st.length 0 0) (.agg wakeC) = some A := by rw [hA]; exact m_new (cs := zeroV) (cs' := wakeC) rfl rfl rfl
  have lA : ld true 6 A (.mp st.length 0 0) = some (.agg wakeC) := by rw [hA]; exact m_all (g := 0) (fz := 0) (by simp) rfl
  obtain ⟨B, hB⟩ : ∃ B, B = A ++ [Ob.cells 0 (hcells (numH 3) .nils .nils) 0] := ⟨_, rfl⟩
  have sB : sto 6 (A ++ [Ob.cells 0 zeroV 0]) (.mp A.length 0 0) (.agg (hcells (numH 3) .nils .nils)) = some B := by rw [hB]; exact m_new (cs := zeroV) (cs' := hcells (numH 3) .nils .nils) rfl rfl rfl
  obtain ⟨C, hC⟩ : ∃ C, C = B ++ [Ob.cells 0 (keyCells (numH 4)) 0] := ⟨_, rfl⟩
  have sC : sto 3 (B ++ [Ob.cells 0 [.int .i64 0, .int .i64 0, .str ⟨#[]⟩] 0]) (.mp B.length 0 0) (.agg (keyCells (numH 4))) = some C := by rw [hC]; exact m_new (cs := [.int .i64 0, .int .i64 0, .str ⟨#[]⟩]) (cs' := keyCells (numH 4)) rfl rfl rfl
  have lC : ld true 6 C (.mp st.length 0 0) = some (.agg wakeC) := m_all (g := 0) (fz := 0) (by rw [hC, hB, hA]; simp) rfl
  have l2 : ld false 1 C (.mp A.length 0 2) = some (.int .i64 3) := m_get (g := 0) (fz := 0) (cs := hcells (numH 3) .nils .nils) (by rw [hC, hB]; simp) rfl
  have l3 : ld false 1 C (.mp B.length 0 1) = some (.int .i64 4) := m_get (g := 0) (fz := 0) (cs := keyCells (numH 4)) (by rw [hC]; simp) rfl
  have hk : Keeps st.length st C := by
    rw [hC, hB, hA, List.append_assoc, List.append_assoc]
    exact Keeps.app (Nat.le_refl _)
  have inn : ∀ n : Int, n = 3 ∨ n = 4 ∨ n = -5 → In (numH n).n := by
    intro n hn
    unfold In
    simp only [numH]
    omega
  have kOne := leaf_one (numH 4) (inn 4 (by omega)) rfl
  have tOne := leaf_one (numH (-5)) (inn (-5) (by omega)) rfl
  have nOne := leaf_one (numH 3) (inn 3 (by omega)) rfl
  have bOne : One badH .nil (hcells badH .nils .nils) := leaf_one badH (by unfold In; simp [badH]) rfl
  have hkey : keyAV (numH 4) = .tup [.agg (keyCells (numH 4)), .int .i64 0] := rfl
  have hkb := code_bad
  have hs1 : same1 wakeH wakeP wakeH wakeP = true := by simp [same1, sameH, wakeH, wakeP, sm, numH]
  have hs2 : same1 wakeH wakeP (numH 3) .nil = false := by simp [same1, sameH, wakeH, numH]
  have szb : (Va.cons badH .nil .nil).sz ≤ 1050000 := by decide
  have szn : (Va.cons (numH 3) .nil .nil).sz ≤ 1050000 := by decide
  have d500 : decide ((((500 : Nat) : Int)) = 500) = true := rfl
  have d0 : decide ((((0 : Nat) : Int)) = 0) = true := rfl
  have d2 : decide ((((2 : Nat) : Int)) = 2) = true := rfl
  refine ⟨C, ?_, hk⟩
  rw [stencillaw5_awake.b_eq, ez]
  simp only [c1, Option.bind_some, num5_spec, Out.on, c2, c3, sA, lA, field_awake, ext, List.getElem?_cons_zero, List.getElem?_cons_succ, sB, key_spec kOne, hkey, sC, textV_spec tOne, text_m5, c9, check_spec bOne szb, hkb, lC, check_spec wake_one wake_sz, code_wake, num_spec, if_true, asI, asS, decide_true, cond_true, l2, l3, d500, d0, d2, depth_spec wake_one wake_sz, depth_wake, count_spec wake_one wake_sz, count_wake, same_spec wake_one wake_one wake_sz wake_sz, hs1, asB, same_spec wake_one nOne wake_sz szn, hs2, Bool.not_false]

theorem t3 : assoc 3 ap.tab = some td3 := by kernel_rfl
theorem t4 : assoc 4 ap.tab = some td4 := by kernel_rfl
theorem t9 : assoc 9 ap.tab = some td9 := by kernel_rfl
theorem t22 : assoc 22 ap.tab = some td22 := by kernel_rfl
theorem t23 : assoc 23 ap.tab = some td23 := by kernel_rfl
theorem t24 : assoc 24 ap.tab = some td24 := by kernel_rfl
theorem t25 : assoc 25 ap.tab = some td25 := by kernel_rfl

theorem str_shape {n : Nat} {l : List AV} (h : Shp ap n 9 l) : ∃ s : ByteArray, l = [.str s] := by
  cases n with
  | zero => exact h.elim
  | succ n =>
    simp only [Shp, t9] at h
    obtain ⟨s, h, _⟩ := h
    exact ⟨s, h⟩
theorem int_shape {n : Nat} {l : List AV} (h : Shp ap n 3 l) : ∃ x : Int, l = [.int .i64 x] ∧ In x := by
  cases n with
  | zero => exact h.elim
  | succ n =>
    simp only [Shp, t3] at h
    obtain ⟨x, h, hw⟩ := h
    refine ⟨x, h, ?_⟩
    simp [Lit.wf, IntKind.min, IntKind.max, IntKind.bits, IntKind.signed] at hw
    unfold In
    omega
theorem bool_shape {n : Nat} {l : List AV} (h : Shp ap n 4 l) : ∃ b : Bool, l = [.bool b] := by
  cases n with
  | zero => exact h.elim
  | succ n =>
    simp only [Shp, t4] at h
    exact h
theorem rowAV_at {ms : List (List AV)} (h : ms.length = 0 ∨ ms.flatten.length ≠ 0) : rowAV ms = .is ms.flatten ms.length .no := by
  unfold rowAV
  rw [if_pos h]
theorem bulks_ncells (l : List ByteArray) : bulks (ncells l) = nsz l := by
  induction l with
  | nil => rfl
  | cons x r ih =>
    show bulks (.str x :: ncells r) = _
    simp only [bulks, AV.bulk, nsz, ih]
theorem names_of : ∀ ms : List (List AV), (∀ m ∈ ms, ∃ x : ByteArray, m = [.str x]) → ∃ l, l.length = ms.length ∧ ms.flatten = ncells l := by
  intro ms
  induction ms with
  | nil => exact fun _ => ⟨[], rfl, rfl⟩
  | cons m r ih =>
    intro h
    obtain ⟨x, rfl⟩ := h m (by simp)
    obtain ⟨l, h1, h2⟩ := ih fun m hm => h m (by simp [hm])
    exact ⟨x :: l, by simp [h1], by simp [ncells, h2]⟩
theorem nam_shape {n : Nat} {l : List AV} (h : Shp ap n 22 l) : ∃ a ns, l = [a] ∧ NamV ns a ∧ nsz ns + 1 ≤ a.bulk := by
  cases n with
  | zero => exact h.elim
  | succ n =>
    simp only [Shp, t22] at h
    rcases h with rfl | ⟨ms, rfl, _, hm⟩
    · exact ⟨_, [], rfl, .inl ⟨rfl, rfl⟩, by simp [nsz, AV.bulk]⟩
    · obtain ⟨ns, h1, h2⟩ := names_of ms fun m hmm => str_shape (hm m hmm)
      have hc := ncells_len ns
      refine ⟨_, ns, rfl, ?_⟩
      rw [rowAV_at (by rw [h2, hc]; omega), h2, ← h1]
      refine ⟨NamV.mk ns .no rfl, ?_⟩
      rw [AV.bulk, bulks_ncells]
      exact Nat.le_refl _

def ValCells (m : List AV) : Prop := ∃ h parts, One h parts m ∧ (Va.cons h parts .nil).sz ≤ bulks m
theorem vals_of : ∀ ms : List (List AV), (∀ m ∈ ms, ValCells m) → ∃ ts : Va, ts.len = ms.length ∧ Row ts ms.flatten ∧ ts.sz ≤ bulks ms.flatten ∧ ms.flatten.length = 6 * ms.length := by
  intro ms
  induction ms with
  | nil => exact fun _ => ⟨.nil, rfl, trivial, by simp [Va.sz], rfl⟩
  | cons m r ih =>
    intro h
    obtain ⟨hd, parts, ⟨a, p, rfl, h1, h2, h3⟩, h4⟩ := h m (by simp)
    obtain ⟨ts, k1, k2, k3, k4⟩ := ih fun m hm => h m (by simp [hm])
    refine ⟨.cons hd parts ts, by simp [Va.len, k1], ⟨a, p, r.flatten, rfl, h1, h2, ?_, k2⟩, ?_, ?_⟩
    · rcases h3 with h3 | h3
      · exact .inl h3
      · exact .inr h3
    · rw [List.flatten_cons, bulks_app]
      simp only [Va.sz] at h4 ⊢
      omega
    · rw [List.flatten_cons, List.length_append, k4]
      simp [hcells]
      omega

theorem val_shape : ∀ (n : Nat) (l : List AV), Shp ap n 25 l → ValCells l := by
  intro n
  induction n using Nat.strongRecOn with
  | ind n ih =>
    intro l h
    cases n with
    | zero => exact h.elim
    | succ n =>
      simp only [Shp, t25] at h
      obtain ⟨ps, rfl, hl, hp⟩ := h
      match ps, hl with
      | [q0, q1, q2, q3, q4, q5], _ =>
        obtain ⟨k, rfl, hk⟩ := int_shape (hp 0 _ _ rfl rfl)
        obtain ⟨b, rfl⟩ := bool_shape (hp 1 _ _ rfl rfl)
        obtain ⟨x, rfl, hx⟩ := int_shape (hp 2 _ _ rfl rfl)
        obtain ⟨s, rfl⟩ := str_shape (hp 3 _ _ rfl rfl)
        obtain ⟨a, ns, rfl, ha, hab⟩ := nam_shape (hp 4 _ _ rfl rfl)
        have h5 := hp 5 _ _ rfl rfl
        have key : ∃ p ts, q5 = [p] ∧ VaV ts p ∧ ts.sz + 1 ≤ p.bulk := by
          cases n with
          | zero => exact h5.elim
          | succ n =>
            simp only [Shp, t23] at h5
            rcases h5 with rfl | ⟨ms, rfl, _, hm⟩
            · exact ⟨_, .nil, rfl, .inl ⟨rfl, rfl⟩, by simp [Va.sz, AV.bulk]⟩
            · obtain ⟨ts, h1, h2, h3, h4⟩ := vals_of ms fun m hmm => ih n (by omega) m (hm m hmm)
              refine ⟨_, ts, rfl, ?_⟩
              rw [rowAV_at (by omega), ← h1]
              refine ⟨.inr ⟨_, _, rfl, h2⟩, ?_⟩
              rw [AV.bulk]
              omega
        obtain ⟨p, ts, rfl, hpv, hpb⟩ := key
        refine ⟨⟨k, b, x, s, ns⟩, ts, ⟨a, p, rfl, hx, ha, hpv⟩, ?_⟩
        simp only [Va.sz, bulks, AV.bulk, List.flatten_cons, List.flatten_nil, List.append_nil, List.cons_append, List.nil_append]
        omega

/-! ### The laws -/
theorem aI (n : Int) : asI .i64 (.int .i64 n) = some n := rfl
theorem aS (s : ByteArray) : asS (.str s) = some s := rfl
theorem aB (b : Bool) : asB (.bool b) = some b := rfl
theorem x0 (a : AV) (l : List AV) : ext (.tup (a :: l)) 0 = some a := rfl
theorem x1 (a b : AV) (l : List AV) : ext (.tup (a :: b :: l)) 1 = some b := rfl
/-- One step at a time. -/
theorem cr {c : Option (Out × Sto)} {v : AV} {st : Sto} {F G : Out × Sto → AV → Option Res} (h : c = some (.ret v, st)) : (c.bind fun x => x.1.on (F x) (G x)) = F (.ret v, st) v := by rw [h]; rfl
theorem br {α : Type} {c : Option α} {a : α} {F : α → Option Res} (h : c = some a) : c.bind F = F a := by rw [h]; rfl
theorem bt {c : Bool} {x y : Option Res} (h : c = true) : (bif c then x else y) = x := by rw [h]; rfl
theorem bf {c : Bool} {x y : Option Res} (h : c = false) : (bif c then x else y) = y := by rw [h]; rfl
theorem it {p : Prop} {inst : Decidable p} {x y : Option Res} (h : p) : (if p then x else y) = x := if_pos h
theorem onr {R : Type} (v : AV) (f g : AV → R) : (Out.ret v).on f g = f v := rfl

theorem lend_one {h : Hd} {parts : Va} {cs : List AV} (h1 : One h parts cs) : One h parts (lendV h parts) := by
  obtain ⟨a, p, _, hn, _, hp⟩ := h1
  exact lendV_one h parts hn hp.ok

theorem checks_at {h : Hd} {parts : Va} {cs : List AV} (h1 : One h parts cs) (hs : (Va.cons h parts .nil).sz ≤ 1050000) : CallR ap 3 [.agg cs] [] = some (.ret (.bool true), []) := by
  have hs' := hs
  simp only [Va.sz] at hs'
  have hl6 : cs.length = 6 := by obtain ⟨a, p, rfl, _⟩ := h1; rfl
  have ez : [AV.int .i64 0, .bool false, .int .i64 0, .str ⟨#[]⟩, .nils, .nils] = zeroV := rfl
  have hL := lend_one h1
  obtain ⟨A, hA⟩ : ∃ A, A = ([] : Sto) ++ [Ob.cells 0 cs 0] := ⟨_, rfl⟩
  obtain ⟨B, hB⟩ : ∃ B, B = A ++ [Ob.cells 0 (lendV h parts) 0] := ⟨_, rfl⟩
  have lA : ld true 6 A (.mp 0 0 0) = some (.agg cs) := by rw [hA]; exact m_all (g := 0) (fz := 0) (by simp) hl6
  have sB : sto 6 (A ++ [Ob.cells 0 zeroV 0]) (.mp A.length 0 0) (.agg (lendV h parts)) = some B := by rw [hB]; exact m_new (cs := zeroV) (cs' := lendV h parts) rfl rfl rfl
  have lB0 : ld true 6 B (.mp 0 0 0) = some (.agg cs) := by rw [hB, hA]; exact m_all (g := 0) (fz := 0) (by simp) hl6
  have lB1 : ld true 6 B (.mp A.length 0 0) = some (.agg (lendV h parts)) := by rw [hB]; exact m_all (g := 0) (fz := 0) (by simp) rfl
  have hk : ∀ S : Sto, Keeps ([] : Sto).length [] S := fun S => ⟨by simp, fun i hi => by simp at hi⟩
  obtain ⟨b, hb⟩ := shallow_spec h1 (by omega) A
  rw [stencillaw5_ValueChecks.call]
  suffices hf : ∃ st', stencillaw5_ValueChecks.b (.agg cs) [] = some ⟨.ret (.bool true), none, st'⟩ by
    obtain ⟨st', hf⟩ := hf
    exact ret_keep hf rfl rfl (hk _)
  rw [stencillaw5_ValueChecks.b_eq, agg_cells, if_pos h1.all, ez, ← hA]
  have e0 : ([] : Sto).length = 0 := rfl
  rw [e0]
  simp only [lA, Option.bind_some, hb, Out.on, asB]
  cases b with
  | false => exact ⟨_, rfl⟩
  | true =>
    simp only [Bool.not_true, cond_false, lendValue_spec h1 hs, Out.on, Option.bind_some, sB, lB0, lB1, check_spec hL hs, depth_spec hL hs, count_spec hL hs, num_spec, refCheck_spec h1 hs, refDepth_spec h1 hs, refCount_spec h1 hs, keptValue_spec h1 hs, awakeV, if_true, asI, decide_true, cond_true, asB]
    exact ⟨_, rfl⟩

theorem checks_law {n : Nat} {l : List AV} (h : Shp ap n 25 l) (hb : bulks l ≤ 1048576) : CallR ap 3 [.agg l] [] = some (.ret (.bool true), []) := by
  obtain ⟨hd, parts, h1, h2⟩ := val_shape n l h
  exact checks_at h1 (by omega)

theorem texts_at {h : Hd} {parts : Va} {cs : List AV} (h1 : One h parts cs) (hs : (Va.cons h parts .nil).sz ≤ 1050000) : CallR ap 5 [.agg cs] [] = some (.ret (.bool true), []) := by
  have hs' := hs
  simp only [Va.sz] at hs'
  have hl6 : cs.length = 6 := by obtain ⟨a, p, rfl, _⟩ := h1; rfl
  have ez : [AV.int .i64 0, .bool false, .int .i64 0, .str ⟨#[]⟩, .nils, .nils] = zeroV := rfl
  have hL := lend_one h1
  have hk3 : (keyCells h).all AV.isCell = true ∧ (keyCells h).length = 3 := by
    unfold keyCells
    split
    · exact ⟨rfl, rfl⟩
    · split <;> exact ⟨rfl, rfl⟩
  have heq : eqV .struct [.i, .i, .s] false (.agg (keyCells h)) (.agg (keyCells h)) = some true := by
    unfold keyCells
    split
    · simp [eqV, eqCells, eqF]
    · split <;> simp [eqV, eqCells, eqF]
  obtain ⟨tx, te, htx⟩ : ∃ (t : ByteArray) (e : Int), textAV h = .tup [.str t, .int .i64 e] := ⟨_, _, rfl⟩
  have T1 := textV_spec hL
  have T2 := refTextV_spec h1
  rw [htx] at T1 T2
  have K1 := key_spec hL
  have K2 := refKey_spec h1
  unfold keyAV at K1 K2
  generalize keyCells h = K at hk3 heq K1 K2
  generalize ((keyErr h : Nat) : Int) = ke at K1 K2
  obtain ⟨A, hA⟩ : ∃ A, A = ([] : Sto) ++ [Ob.cells 0 cs 0] := ⟨_, rfl⟩
  obtain ⟨B, hB⟩ : ∃ B, B = A ++ [Ob.cells 0 (lendV h parts) 0] := ⟨_, rfl⟩
  obtain ⟨C, hC⟩ : ∃ C, C = B ++ [Ob.cells 0 K 0] := ⟨_, rfl⟩
  obtain ⟨D, hD⟩ : ∃ D, D = C ++ [Ob.cells 0 K 0] := ⟨_, rfl⟩
  have lA : ld true 6 A (.mp 0 0 0) = some (.agg cs) := by rw [hA]; exact m_all (g := 0) (fz := 0) (by simp) hl6
  have sB : sto 6 (A ++ [Ob.cells 0 zeroV 0]) (.mp A.length 0 0) (.agg (lendV h parts)) = some B := by rw [hB]; exact m_new (cs := zeroV) (cs' := lendV h parts) rfl rfl rfl
  have lB1 : ld true 6 B (.mp A.length 0 0) = some (.agg (lendV h parts)) := by rw [hB]; exact m_all (g := 0) (fz := 0) (by simp) rfl
  have sC : sto 3 (B ++ [Ob.cells 0 [.int .i64 0, .int .i64 0, .str ⟨#[]⟩] 0]) (.mp B.length 0 0) (.agg K) = some C := by rw [hC]; exact m_new (cs := [.int .i64 0, .int .i64 0, .str ⟨#[]⟩]) (cs' := K) hk3.1 hk3.2 rfl
  have sD : sto 3 (C ++ [Ob.cells 0 [.int .i64 0, .int .i64 0, .str ⟨#[]⟩] 0]) (.mp C.length 0 0) (.agg K) = some D := by rw [hD]; exact m_new (cs := [.int .i64 0, .int .i64 0, .str ⟨#[]⟩]) (cs' := K) hk3.1 hk3.2 rfl
  have lC0 : ld true 6 C (.mp 0 0 0) = some (.agg cs) := m_all (g := 0) (fz := 0) (by rw [hC, hB, hA]; simp) hl6
  have lD0 : ld true 6 D (.mp 0 0 0) = some (.agg cs) := m_all (g := 0) (fz := 0) (by rw [hD, hC, hB, hA]; simp) hl6
  have lD1 : ld true 6 D (.mp A.length 0 0) = some (.agg (lendV h parts)) := m_all (g := 0) (fz := 0) (by rw [hD, hC, hB]; simp) rfl
  have lD2 : ld true 3 D (.mp B.length 0 0) = some (.agg K) := m_all (g := 0) (fz := 0) (by rw [hD, hC]; simp) hk3.2
  have lD3 : ld true 3 D (.mp C.length 0 0) = some (.agg K) := m_all (g := 0) (fz := 0) (by rw [hD]; simp) hk3.2
  have hk : ∀ S : Sto, Keeps ([] : Sto).length [] S := fun S => ⟨by simp, fun i hi => by simp at hi⟩
  obtain ⟨b, hb⟩ := shallow_spec h1 (by omega) A
  rw [stencillaw5_ValueTexts.call]
  suffices hf : ∃ st', stencillaw5_ValueTexts.b (.agg cs) [] = some ⟨.ret (.bool true), none, st'⟩ by
    obtain ⟨st', hf⟩ := hf
    exact ret_keep hf rfl rfl (hk _)
  rw [stencillaw5_ValueTexts.b_eq, agg_cells, if_pos h1.all, ez, ← hA]
  have e0 : ([] : Sto).length = 0 := rfl
  rw [e0]
  cases b with
  | false =>
    refine ⟨A, ?_⟩
    refine (br lA).trans ?_
    refine (cr hb).trans ?_
    refine (br (aB _)).trans ?_
    exact bt rfl
  | true =>
    refine ⟨D, ?_⟩
    refine (br (lA)).trans ?_
    refine (cr (hb)).trans ?_
    refine (br (aB _)).trans ?_
    refine (bf (rfl)).trans ?_
    refine (br (lA)).trans ?_
    refine (cr (lendValue_spec h1 hs A)).trans ?_
    refine (br (sB)).trans ?_
    refine (br (lB1)).trans ?_
    refine (cr (T1 B)).trans ?_
    refine (br (x0 _ _)).trans ?_
    refine (br (x1 _ _ _)).trans ?_
    refine (br (lB1)).trans ?_
    refine (cr (K1 B)).trans ?_
    refine (br (x0 _ _)).trans ?_
    refine (br (x1 _ _ _)).trans ?_
    refine (br (sC)).trans ?_
    refine (br (lC0)).trans ?_
    refine (cr (T2 C)).trans ?_
    refine (br (x0 _ _)).trans ?_
    refine (br (x1 _ _ _)).trans ?_
    refine (br (lC0)).trans ?_
    refine (cr (K2 C)).trans ?_
    refine (br (x0 _ _)).trans ?_
    refine (br (x1 _ _ _)).trans ?_
    refine (br (sD)).trans ?_
    refine (br (aS _)).trans ?_
    refine (br (aS _)).trans ?_
    refine (bt (decide_eq_true rfl)).trans ?_
    refine (cr (num_spec _ _)).trans ?_
    refine (br (aI _)).trans ?_
    refine (br (aI _)).trans ?_
    refine (bt (decide_eq_true rfl)).trans ?_
    refine (br (lD2)).trans ?_
    refine (br (lD3)).trans ?_
    refine (br (heq)).trans ?_
    refine (bt (rfl)).trans ?_
    refine (cr (num_spec _ _)).trans ?_
    refine (br (aI _)).trans ?_
    refine (br (aI _)).trans ?_
    refine (bt (decide_eq_true rfl)).trans ?_
    refine (br (lD1)).trans ?_
    refine (br (lD0)).trans ?_
    refine (cr (keptValue_spec h1 hs D)).trans ?_
    refine (br (aB _)).trans ?_
    refine (bt (rfl)).trans ?_
    refine (cr (awakeV D)).trans ?_
    refine (br (aB _)).trans ?_
    rfl
theorem texts_law {n : Nat} {l : List AV} (h : Shp ap n 25 l) (hb : bulks l ≤ 1048576) : CallR ap 5 [.agg l] [] = some (.ret (.bool true), []) := by
  obtain ⟨hd, parts, h1, h2⟩ := val_shape n l h
  exact texts_at h1 (by omega)
end Go.Proofs.YtiiooldjegoikaaDoor
