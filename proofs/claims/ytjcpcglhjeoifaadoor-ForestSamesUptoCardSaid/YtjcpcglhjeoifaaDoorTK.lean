/- Forests kept; the law of checks. -/
import Derived.Test.YtjcpcglhjeoifaaDoorTL
namespace Go.Proofs.YtjcpcglhjeoifaaDoor
open Go.St Go.Lib
set_option linter.unusedVariables false
set_option linter.unusedSimpArgs false

theorem eq_self2 (a b : ByteArray) : eqV .struct [.s, .s] false (.agg [.str a, .str b]) (.agg [.str a, .str b]) = some true := by
  simp [eqV, eqCells, eqF]

theorem same_loop {ats : List (ByteArray × ByteArray)} {v w : AV} (hv : AttV ats v) (hw : AttV ats w) (hs : asz ats ≤ 1050000) (st : Sto) :
    ∀ (suf pre : List (ByteArray × ByteArray)), ats = pre ++ suf → stencillaw0_SameAttrs.p110100 v w ((pre.length : Nat) : Int) st = some ⟨.ret (.bool true), none, st⟩ := by
  intro suf
  induction suf with
  | nil =>
    intro pre hp
    rw [List.append_nil] at hp
    subst hp
    rw [stencillaw0_SameAttrs.p110100_eq]
    simp only [hv.len, Option.bind_some, Int.lt_irrefl, decide_false, cond_false]
  | cons x r ih =>
    intro pre hp
    subst hp
    have hlen : (pre ++ x :: r).length ≤ 525000 := by have := asz_len (pre ++ x :: r); omega
    have hlt : (((pre.length : Nat) : Int) < (((pre ++ x :: r).length : Nat) : Int)) := by simp; omega
    have hwr : IntKind.wrap .i64 (((pre.length : Nat) : Int) + 1) = (((pre ++ [x]).length : Nat) : Int) := by
      rw [w64 (pre.length + 1) (by omega) (by simp at hlen ⊢; omega)]
      simp
    have nxt := ih (pre ++ [x]) (by simp)
    rw [stencillaw0_SameAttrs.p110100_eq]
    simp only [hv.len, Option.bind_some, hlt, decide_true, cond_true, attr_at hv rfl, attr_at hw rfl, l2, eq_self2, Bool.not_true, cond_false, hwr, nxt]

theorem sameAttrs_spec {ats : List (ByteArray × ByteArray)} {v w : AV} (hv : AttV ats v) (hw : AttV ats w) (hs : asz ats ≤ 1050000) (st : Sto) : CallR ap 45 [v, w] st = some (.ret (.bool true), st) := by
  have := same_loop hv hw hs st ats [] rfl
  simp only [List.length_nil, Int.natCast_zero] at this
  rw [stencillaw0_SameAttrs.call]
  refine ret_keep ?_ rfl rfl (Keeps.refl _ _)
  rw [stencillaw0_SameAttrs.b_eq]
  simp only [hv.len, hw.len, Option.bind_some, decide_true, Bool.not_true, cond_false, this]

theorem sameNil_spec (st : Sto) : CallR ap 46 [.nils, .nils] st = some (.ret (.bool true), st) := by
  rw [stencillaw0_SameTrees.call]
  refine ret_keep ?_ rfl rfl (Keeps.refl _ _)
  rw [stencillaw0_SameTrees.b_eq, stencillaw0_SameTrees.p110100_eq]
  rfl

theorem sameRoom_spec (st : Sto) : CallR ap 33 [.agg roomT, .agg roomT] st = some (.ret (.bool true), st) := by
  have hc : roomT.all AV.isCell = true := rfl
  have e : (st ++ [Ob.cells 0 roomT 0]).length = (st ++ [Ob.cells 0 roomT 0]).length := rfl
  have a0 := fun n x (h : roomT[n]? = some x) => m_get (st := (st ++ [Ob.cells 0 roomT 0]) ++ [Ob.cells 0 roomT 0]) (x := x) (n := n) (g := 0) (fz := 0) get_mid h
  have b0 := fun n x (h : roomT[n]? = some x) => m_get (st := (st ++ [Ob.cells 0 roomT 0]) ++ [Ob.cells 0 roomT 0]) (x := x) (n := n) (g := 0) (fz := 0) get_last h
  have hn : AttV [] .nils := .inl ⟨rfl, rfl⟩
  rw [stencillaw0_SameTree.call]
  refine ret_keep (st' := (st ++ [Ob.cells 0 roomT 0]) ++ [Ob.cells 0 roomT 0]) ?_ rfl rfl (by rw [List.append_assoc]; exact Keeps.app (Nat.le_refl _))
  rw [stencillaw0_SameTree.b_eq, agg_cells, if_pos hc, if_pos hc]
  simp only [a0 0 _ rfl, b0 0 _ rfl, a0 1 _ rfl, b0 1 _ rfl, a0 2 _ rfl, b0 2 _ rfl, a0 3 _ rfl, b0 3 _ rfl, Option.bind_some, asS, decide_true, cond_true, sameAttrs_spec hn hn (by simp [asz]), Out.on, asB, sameNil_spec]

theorem keptAttrs_spec {ats : List (ByteArray × ByteArray)} {a : AV} (ha : AttV ats a) (hs : asz ats ≤ 1050000) (st : Sto) : CallR ap 47 [lendA ats, a] st = some (.ret (.bool true), st) := by
  have hl := asz_len ats
  have hc := acells_len ats
  have hlen : (acells ats ++ (roomA ++ roomA)).length = (ats.length + 2) * 2 := by rw [List.length_append, hc]; simp [roomA]; omega
  have hw : IntKind.wrap .i64 (((ats.length : Nat) : Int) + 2) = ((ats.length + 2 : Nat) : Int) := w64 _ (by omega) (by omega)
  have hw1 : IntKind.wrap .i64 (((ats.length : Nat) : Int) + 1) = ((ats.length + 1 : Nat) : Int) := w64 _ (by omega) (by omega)
  have hcut : cutL 2 (lendA ats) none (some (.int .i64 ((ats.length + 2 : Nat) : Int))) = some (.is (acells ats ++ (roomA ++ roomA)) (ats.length + 2) (.cut (ats.length + 2))) := open_rooms hlen
  have i0 : ia 2 (.is (acells ats ++ (roomA ++ roomA)) (ats.length + 2) (.cut (ats.length + 2))) (.int .i64 ((ats.length : Nat) : Int)) = some (.ip roomA) := by
    have h1 : (ats.length + 1) * 2 ≤ (acells ats ++ (roomA ++ roomA)).length := by rw [hlen]; omega
    simp only [ia, idx_nat (show ats.length < ats.length + 2 by omega), Option.bind_some, h1, if_true]
    rw [← hc, List.drop_left]
    rfl
  have i1 : ia 2 (.is (acells ats ++ (roomA ++ roomA)) (ats.length + 2) (.cut (ats.length + 2))) (.int .i64 ((ats.length + 1 : Nat) : Int)) = some (.ip roomA) := by
    have h1 : (ats.length + 1 + 1) * 2 ≤ (acells ats ++ (roomA ++ roomA)).length := by rw [hlen]; omega
    simp only [ia, idx_nat (show ats.length + 1 < ats.length + 2 by omega), Option.bind_some, h1, if_true]
    rw [show (ats.length + 1) * 2 = (acells ats).length + 2 by rw [hc]; omega, ← List.drop_drop, List.drop_left]
    rfl
  have ldr : ∀ s : Sto, ld true 2 s (.ip roomA) = some (.agg roomA) := fun _ => rfl
  have eqr : eqV .struct [.s, .s] false (.agg roomA) (.agg roomA) = some true := eq_self2 _ _
  rw [stencillaw0_KeptAttrs.call]
  refine ret_keep ?_ rfl rfl (Keeps.refl _ _)
  rw [stencillaw0_KeptAttrs.b_eq]
  simp only [(lendA_att ats).len, ha.len, Option.bind_some, hw, hw1, hcut, sameAttrs_spec (lendA_att ats) ha hs, Out.on, guardT, gOn, cond_true, i0, i1, ldr, roomA_agg, eqr]

def KeptOk (ts : Fo) : Prop := ∀ (row row' : List AV) (n i : Nat) (tok tok' : Tok) (st : Sto), (∃ r, row'.drop (i * 4) = lendRow ts ++ r) → Row ts (row.drop (i * 4)) → n = i + ts.len → ts.sz ≤ 1050000 → n ≤ 1050000 →
  stencillaw0_KeptTrees.p1110100 (.is row' n tok') (.is row n tok) ((i : Nat) : Int) st = some ⟨.ret (.bool true), none, st⟩

theorem kept_of {ts : Fo} (H : KeptOk ts) {v : AV} (hv : FoV ts v) (hs : ts.sz ≤ 1050000) (st : Sto) : CallR ap 18 [lendF ts, v] st = some (.ret (.bool true), st) := by
  have hl := len_sz ts
  have hc := lendRow_len ts
  have hlen : (lendRow ts ++ (roomT ++ roomT)).length = (ts.len + 2) * 4 := by rw [List.length_append, hc]; simp [roomT]; omega
  have hw : IntKind.wrap .i64 (((ts.len : Nat) : Int) + 2) = ((ts.len + 2 : Nat) : Int) := w64 _ (by omega) (by omega)
  have hw1 : IntKind.wrap .i64 (((ts.len : Nat) : Int) + 1) = ((ts.len + 1 : Nat) : Int) := w64 _ (by omega) (by omega)
  have hcut : cutL 4 (lendF ts) none (some (.int .i64 ((ts.len + 2 : Nat) : Int))) = some (.is (lendRow ts ++ (roomT ++ roomT)) (ts.len + 2) (.cut (ts.len + 2))) := open_rooms hlen
  have i0 : ia 4 (.is (lendRow ts ++ (roomT ++ roomT)) (ts.len + 2) (.cut (ts.len + 2))) (.int .i64 ((ts.len : Nat) : Int)) = some (.ip roomT) := by
    have h1 : (ts.len + 1) * 4 ≤ (lendRow ts ++ (roomT ++ roomT)).length := by rw [hlen]; omega
    simp only [ia, idx_nat (show ts.len < ts.len + 2 by omega), Option.bind_some, h1, if_true]
    rw [← hc, List.drop_left]
    rfl
  have i1 : ia 4 (.is (lendRow ts ++ (roomT ++ roomT)) (ts.len + 2) (.cut (ts.len + 2))) (.int .i64 ((ts.len + 1 : Nat) : Int)) = some (.ip roomT) := by
    have h1 : (ts.len + 1 + 1) * 4 ≤ (lendRow ts ++ (roomT ++ roomT)).length := by rw [hlen]; omega
    simp only [ia, idx_nat (show ts.len + 1 < ts.len + 2 by omega), Option.bind_some, h1, if_true]
    rw [show (ts.len + 1) * 4 = (lendRow ts).length + 4 by rw [hc]; omega, ← List.drop_drop, List.drop_left]
    rfl
  have ldr : ∀ s : Sto, ld true 4 s (.ip roomT) = some (.agg roomT) := fun _ => rfl
  rw [stencillaw0_KeptTrees.call]
  refine ret_keep ?_ rfl rfl (Keeps.refl _ _)
  rw [stencillaw0_KeptTrees.b_eq]
  simp only [(lendF_fo ts).len, hv.len, Option.bind_some, hw, hw1, hcut, decide_true, Bool.not_true, cond_false, i0, i1, ldr, roomT_agg, sameRoom_spec, Out.on, asB, stencillaw0_KeptTrees.p1101_eq]
  rcases hv with ⟨h0, rfl⟩ | ⟨row, tok, rfl, hr⟩
  · obtain rfl := len_nil h0
    rw [stencillaw0_KeptTrees.p1110100_eq]
    simp [lenL]
  · have := H row (lendRow ts ++ (roomT ++ roomT)) ts.len 0 tok (.cut (ts.len + 2)) st ⟨roomT ++ roomT, by simp⟩ (by simpa using hr) (by omega) hs (by omega)
    simpa [lendF] using this

theorem keptTree_of {tag text : ByteArray} {ats : List (ByteArray × ByteArray)} {kids : Fo} (H : KeptOk kids) {a k : AV} (ha : AttV ats a) (hk : FoV kids k) (hs : asz ats ≤ 1050000) (hs2 : kids.sz ≤ 1050000) (st : Sto) :
    CallR ap 34 [.agg [.str tag, .str text, lendA ats, lendF kids], .agg [.str tag, .str text, a, k]] st = some (.ret (.bool true), st) := by
  have a0 := fun n x (h : [AV.str tag, .str text, lendA ats, lendF kids][n]? = some x) => m_get (st := (st ++ [Ob.cells 0 [AV.str tag, .str text, lendA ats, lendF kids] 0]) ++ [Ob.cells 0 [.str tag, .str text, a, k] 0]) (x := x) (n := n) (g := 0) (fz := 0) get_mid h
  have b0 := fun n x (h : [AV.str tag, .str text, a, k][n]? = some x) => m_get (st := (st ++ [Ob.cells 0 [AV.str tag, .str text, lendA ats, lendF kids] 0]) ++ [Ob.cells 0 [.str tag, .str text, a, k] 0]) (x := x) (n := n) (g := 0) (fz := 0) get_last h
  rw [stencillaw0_KeptTree.call]
  refine ret_keep (st' := (st ++ [Ob.cells 0 [AV.str tag, .str text, lendA ats, lendF kids] 0]) ++ [Ob.cells 0 [.str tag, .str text, a, k] 0]) ?_ rfl rfl (by rw [List.append_assoc]; exact Keeps.app (Nat.le_refl _))
  rw [stencillaw0_KeptTree.b_eq, agg_cells, agg_cells, if_pos (cell2 (lendA_att ats) (lendF_fo kids)), if_pos (cell2 ha hk)]
  simp only [a0 0 _ rfl, b0 0 _ rfl, a0 1 _ rfl, b0 1 _ rfl, a0 2 _ rfl, b0 2 _ rfl, a0 3 _ rfl, b0 3 _ rfl, Option.bind_some, asS, decide_true, cond_true, keptAttrs_spec ha hs, Out.on, asB, kept_of H hk hs2]

theorem kept_all (ts : Fo) : KeptOk ts := by
  induction ts with
  | nil =>
    intro row row' n i tok tok' st hr' hr hn hs hb
    simp only [Fo.len] at hn
    rw [stencillaw0_KeptTrees.p1110100_eq]
    have hlt : ¬ (((i : Nat) : Int) < ((n : Nat) : Int)) := by omega
    simp only [lenL, Option.bind_some, hlt, decide_false, cond_false]
  | cons tag text ats kids rest ihk ihr =>
    intro row row' n i tok tok' st hr' hr hn hs hb
    simp only [Fo.len] at hn
    simp only [Fo.sz] at hs
    obtain ⟨a, k, ha, hk, hr2, hlen, hia⟩ := row_at hr
    have hia := hia n tok (by omega)
    obtain ⟨r, hr'⟩ := hr'
    have hl' : (row'.drop (i * 4)).length = (lendRow rest).length + r.length + 4 := by rw [hr']; simp only [lendRow, List.cons_append, List.length_cons, List.length_append]
    rw [List.length_drop] at hl'
    have hia' : ia 4 (.is row' n tok') (.int .i64 (i : Int)) = some (.ip [.str tag, .str text, lendA ats, lendF kids]) := by
      have hc : (i + 1) * 4 ≤ row'.length := by omega
      simp only [ia, idx_nat (show i < n by omega), Option.bind_some, hc, if_true]
      rw [hr']
      rfl
    have hd : row'.drop ((i + 1) * 4) = lendRow rest ++ r := by
      rw [show (i + 1) * 4 = i * 4 + 4 by omega, ← List.drop_drop, hr']
      rfl
    have wi : IntKind.wrap .i64 ((i : Int) + 1) = ((i + 1 : Nat) : Int) := w64 _ (by omega) (by omega)
    have hlt : (((i : Nat) : Int) < ((n : Nat) : Int)) := by omega
    rw [stencillaw0_KeptTrees.p1110100_eq]
    simp only [lenL, Option.bind_some, hlt, decide_true, cond_true, hia, hia', l4, keptTree_of ihk ha hk (show asz ats ≤ 1050000 by omega) (show kids.sz ≤ 1050000 by omega), Out.on, if_true, asB, Bool.not_true, cond_false, wi]
    exact ihr row row' n (i + 1) tok tok' st ⟨r, hd⟩ hr2 (by omega) (by omega) hb

theorem keptTrees_spec {ts : Fo} {v : AV} (hv : FoV ts v) (hs : ts.sz ≤ 1050000) (st : Sto) : CallR ap 18 [lendF ts, v] st = some (.ret (.bool true), st) := kept_of (kept_all ts) hv hs st

/-! ### The law -/
theorem checks {ts : Fo} {v : AV} (hv : FoV ts v) (hs : ts.sz ≤ 1050000) : CallR ap 3 [v] [] = some (.ret (.bool true), []) := by
  obtain ⟨b, hb⟩ := shallow_spec hv hs []
  rw [stencillaw7_ForestChecks.call]
  refine ret_keep ?_ rfl rfl (Keeps.refl _ _)
  rw [stencillaw7_ForestChecks.b_eq]
  cases b with
  | false => simp only [hb, Option.bind_some, Out.on, asB, Bool.not_false, cond_true]
  | true =>
    have hL := lendF_fo ts
    have ho : ∃ w e, htmlOut ts = .tup [.str w, .int .i64 e] := by
      unfold htmlOut
      split
      · exact ⟨_, _, rfl⟩
      · exact ⟨_, _, rfl⟩
    obtain ⟨w, e, ho⟩ := ho
    have h1 := html_spec hL hs []
    have h2 := refHtml_spec hv hs []
    rw [ho] at h1 h2
    simp only [hb, Option.bind_some, Out.on, asB, Bool.not_true, cond_false, lendTrees_spec hv hs, check_spec hL hs, count_spec hL hs, depth_spec hL hs, h1, ext, List.getElem?_cons_zero, List.getElem?_cons_succ, h2, num_spec, refCheck_spec hv hs, refCount_spec hv hs, refDepth_spec hv hs, asI, if_true, decide_true, cond_true, asS, keptTrees_spec hv hs, awake_spec]
end Go.Proofs.YtjcpcglhjeoifaaDoor
