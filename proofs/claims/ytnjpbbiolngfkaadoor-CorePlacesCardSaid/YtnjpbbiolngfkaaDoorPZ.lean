/- Cores: which places of the stack may be asked. -/
import Derived.Test.YtnjpbbiolngfkaaDoorPY
namespace Go.Proofs.YtnjpbbiolngfkaaDoor
open Go.St Go.Lib
set_option linter.unusedVariables false
set_option linter.unusedSimpArgs false

theorem num_specB (a : Int) (st : Sto) : CallR ap 9 [.int .i64 a] st = some (.ret (.int .i64 a), st) := num_spec a st
theorem awake_spec : CallR ap 5 [] [] = some (.ret (.bool true), []) := by
  rw [stencillaw15_awake.call]
  refine ret_keep (st' := wS) ?_ rfl rfl ⟨Nat.zero_le _, fun i hi => absurd hi (by simp)⟩
  rw [stencillaw15_awake.b_eq]
  refine (br (show _ = some (AV.agg [.str ⟨#[120]⟩, .bool false, .int .i64 0, .int .i64 0, .str ⟨#[]⟩, .nils]) from rfl)).trans ?_
  refine (br (show _ = some (AV.is [.str ⟨#[120]⟩, .bool false, .int .i64 0, .int .i64 0, .str ⟨#[]⟩, .nils] 1 .full, ([] : Sto)) from rfl)).trans ?_
  refine (br (show _ = some (AV.agg [.int .i64 1, .str ⟨#[]⟩, .nils, .is [.str ⟨#[120]⟩, .bool false, .int .i64 0, .int .i64 0, .str ⟨#[]⟩, .nils] 1 .full, .nils, .nils, .nils]) from rfl)).trans ?_
  refine (br (show _ = some (wT, ([] : Sto)) from rfl)).trans ?_
  refine (br (show _ = some (AV.agg wE) from rfl)).trans ?_
  refine (br (show _ = some wS from rfl)).trans ?_
  refine (br (show _ = some (AV.agg wE) from rfl)).trans ?_
  refine (br (show _ = some (AV.is wE 1 .full, wS) from rfl)).trans ?_
  refine (cr w1).trans ?_
  refine (br (show _ = some (AV.agg wP) from rfl)).trans ?_
  refine (br (show _ = some (AV.is wP 1 .full, wS) from rfl)).trans ?_
  refine (cr w2).trans ?_
  refine (cr (num_spec _ wS)).trans ?_
  refine (br (aI _)).trans ?_
  refine (bt rfl).trans ?_
  refine (cr (num_spec _ wS)).trans ?_
  refine (br (aI _)).trans ?_
  refine (bt rfl).trans ?_
  refine (br (show _ = some (AV.agg wE) from rfl)).trans ?_
  refine (br (show _ = some (AV.agg wE) from rfl)).trans ?_
  refine (br (show _ = some (AV.is (wE ++ wE) 2 .full, wS) from rfl)).trans ?_
  refine (cr w3).trans ?_
  refine (br (aI _)).trans ?_
  refine (bt rfl).trans ?_
  refine (br (show _ = some (AV.agg wE) from rfl)).trans ?_
  refine (br (show _ = some (AV.agg wE) from rfl)).trans ?_
  refine (br (show _ = some (AV.is (wE ++ wE) 2 .full, wS) from rfl)).trans ?_
  refine (cr w4).trans ?_
  refine (br (show _ = some (AV.is [.int .i64 0, .int .i64 2] 2 .full, wS) from rfl)).trans ?_
  refine (cr w5).trans ?_
  refine (br (aB _)).trans ?_
  refine (bt rfl).trans ?_
  refine (br (show _ = some (AV.agg wE) from rfl)).trans ?_
  refine (br (show _ = some (AV.is wE 1 .full, wS) from rfl)).trans ?_
  refine (cr w6).trans ?_
  exact br (aI _)

theorem and63 (x : Int) : ∃ k : Nat, andI .i64 x 63 = ((k : Nat) : Int) ∧ k ≤ 63 := by
  have h : (BitVec.ofInt 64 x &&& BitVec.ofInt 64 63).toNat ≤ 63 := by
    rw [BitVec.toNat_and]
    exact Nat.le_trans Nat.and_le_right (by decide)
  have e : IntKind.wrap .i64 (((BitVec.ofInt 64 x &&& BitVec.ofInt 64 63).toNat : Nat) : Int) = (((BitVec.ofInt 64 x &&& BitVec.ofInt 64 63).toNat : Nat) : Int) := wrap64 (by omega) (by omega)
  exact ⟨(BitVec.ofInt 64 x &&& BitVec.ofInt 64 63).toNat, e, h⟩
theorem place_loop (pl : Int) (k : Nat) (hk : k ≤ 63) : ∀ (m i : Nat), i + m = k → stencillaw15_CorePlaces.p11110100 pl ((k : Nat) : Int) (chain pl i) ((i : Nat) : Int) [] = some ⟨.ret (.bool true), none, []⟩ := by
  intro m
  induction m with
  | succ m ih =>
    intro i him
    have w1 : IntKind.wrap .i64 (((i : Nat) : Int) + 1) = ((i + 1 : Nat) : Int) := w64 _ (by omega) (by omega)
    have hcell : (chain pl i).isCell = true ∧ (chain pl i).cells = [chain pl i] := by cases i <;> exact ⟨rfl, rfl⟩
    rw [stencillaw15_CorePlaces.p11110100_eq]
    refine (bt (dtrue (by omega))).trans ?_
    refine (br (show _ = some (AV.agg eN) from rfl)).trans ?_
    refine (br (show _ = some (AV.is eN 1 .full, ([] : Sto)) from rfl)).trans ?_
    have hagg : (aggA (fillA (fun i => ([(0, 1), (1, 1), (2, 1), (3, 1), (4, 1), (5, 1), (6, 1)] : List (Nat × Nat))[i]?) [.int .i64 0, .str ⟨#[]⟩, .nils, .nils, .nils, .nils, .nils] [(0, (.int .i64 5)), (4, .is eN 1 .full), (5, chain pl i)])) = some (.agg (wC (chain pl i))) := by
      have h1 : (AV.is eN 1 .full).cells = [AV.is eN 1 .full] := rfl
      have h2 : (AV.int .i64 5).cells = [AV.int .i64 5] := rfl
      have h3 : (AV.is eN 1 .full).isCell = true := rfl
      have h4 : (AV.int .i64 5).isCell = true := rfl
      simp [aggA, fillA, hcell.1, hcell.2, h1, h2, h3, h4, splice, wC]
    have hlit : (litS false 1 7 (fillA (fun i => some (i * 7, 7)) [.int .i64 0, .str ⟨#[]⟩, .nils, .nils, .nils, .nils, .nils] [(0, .agg (wC (chain pl i)))]) ([] : Sto)) = some (row (wC (chain pl i)), []) := by
      have h1 : (AV.agg (wC (chain pl i))).cells = wC (chain pl i) := rfl
      have h2 : (wC (chain pl i)).all AV.isCell = true := by
        unfold wC
        simp only [List.all_cons, List.all_nil, hcell.1, Bool.and_true]
        rfl
      have : (fillA (fun i => some (i * 7, 7)) [.int .i64 0, .str ⟨#[]⟩, .nils, .nils, .nils, .nils, .nils] [(0, .agg (wC (chain pl i)))]) = some (wC (chain pl i)) := by
        simp only [fillA, h1, h2]
        rfl
      rw [this]
      rfl
    refine (br hagg).trans ?_
    refine (br hlit).trans ?_
    rw [w1]
    exact ih (i + 1) (by omega)
  | zero =>
    intro i him
    have hi : i = k := by omega
    subst hi
    have w1 : IntKind.wrap .i64 (((i : Nat) : Int) + 1) = ((i : Nat) : Int) + 1 := wrap64 (by omega) (by omega)
    have hok : okB pl (1 + ((i : Nat) : Int)) = decide (0 ≤ pl ∧ pl ≤ ((i : Nat) : Int)) := decide_eq_decide.2 (by omega)
    rw [stencillaw15_CorePlaces.p11110100_eq]
    refine (bf (dfalse (by omega))).trans ?_
    refine (cr (check_spec pl i hk [])).trans ?_
    refine (bf (dfalse (by omega))).trans ?_
    have tail : ∀ b, b = okB pl (1 + ((i : Nat) : Int)) → stencillaw15_CorePlaces.p111111101 ((i : Nat) : Int) (chain pl i) (.int .i64 (if okB pl (1 + ((i : Nat) : Int)) = true then 0 else 1502)) b [] = some ⟨.ret (.bool true), none, []⟩ := by
      intro b hb
      rw [stencillaw15_CorePlaces.p111111101_eq, ← hb]
      cases b with
      | true =>
        rw [if_pos rfl]
        refine (bt rfl).trans ?_
        refine (cr (num_spec _ [])).trans ?_
        refine (br (aI _)).trans ?_
        refine (bt rfl).trans ?_
        refine (cr (count_spec pl i hk [])).trans ?_
        rw [← hb, if_pos rfl, w1]
        refine (br (aI _)).trans ?_
        rw [dtrue rfl]
      | false =>
        rw [if_neg (by simp)]
        refine (bf rfl).trans ?_
        refine (cr (num_spec _ [])).trans ?_
        refine (br (aI _)).trans ?_
        refine (bt rfl).trans ?_
        refine (cr (count_spec pl i hk [])).trans ?_
        rw [← hb, if_neg (by simp)]
        exact br (aI _)
    by_cases h0 : 0 ≤ pl
    · refine (bt (dtrue h0)).trans ?_
      exact tail _ (by rw [hok]; exact decide_eq_decide.2 (by omega))
    · refine (bf (dfalse h0)).trans ?_
      exact tail false (by rw [hok, dfalse (by omega)])

theorem places_law (pl many : Int) : CallR ap 4 [.int .i64 pl, .int .i64 many] [] = some (.ret (.bool true), []) := by
  obtain ⟨k, hk, hk63⟩ : ∃ k : Nat, andI .i64 many 63 = ((k : Nat) : Int) ∧ k ≤ 63 := and63 many
  rw [stencillaw15_CorePlaces.call]
  refine ret_keep (st' := []) ?_ rfl rfl (Keeps.refl _ _)
  rw [stencillaw15_CorePlaces.b_eq]
  refine (cr awake_spec).trans ?_
  refine (br (aB _)).trans ?_
  refine (bf rfl).trans ?_
  refine (br (show _ = some (AV.agg (eV pl)) from rfl)).trans ?_
  refine (br (show _ = some (AV.agg (pt pl)) from rfl)).trans ?_
  refine (br (show _ = some (AV.is (pt pl) 1 .full, ([] : Sto)) from rfl)).trans ?_
  refine (br (show _ = some (AV.agg (tC pl)) from rfl)).trans ?_
  refine (br (show _ = some (row (tC pl), ([] : Sto)) from rfl)).trans ?_
  rw [hk]
  exact place_loop pl k hk63 k 0 (by omega)
end Go.Proofs.YtnjpbbiolngfkaaDoor
