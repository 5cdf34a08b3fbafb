/- Programs: awake. -/
import Derived.Test.YtcgepgahgihojaaDoorVR
namespace Go.Proofs.YtcgepgahgihojaaDoor
open Go.St Go.Lib
set_option linter.unusedVariables false
set_option linter.unusedSimpArgs false

def o3 : OpA := ⟨3, 1, 0, 0, []⟩
def o1 : OpA := ⟨1, 0, 0, 0, []⟩
def o6 : OpA := ⟨6, 0, 0, 0, []⟩
def pA : PrA := ⟨[⟨#[97]⟩, ⟨#[112]⟩], [], .nil, [⟨1, [o3, o1, o6], [1]⟩]⟩
def pB : PrA := ⟨[⟨#[97]⟩, ⟨#[112]⟩], [], .nil, [⟨1, [o3, o1], [1]⟩]⟩
def pC : PrA := ⟨[], [], .nil, []⟩

theorem getD_le {α : Type} {d : α} {f : α → Nat} {b : Nat} : ∀ {l : List α}, (∀ x ∈ l, f x ≤ b) → f d ≤ b → ∀ i, f (l.getD i d) ≤ b := by
  intro l
  induction l with
  | nil => intro _ h i; exact h
  | cons x r ih =>
    intro h hd i
    cases i with
    | zero => exact h x (by simp)
    | succ i => exact ih (fun y hy => h y (by simp [hy])) hd i
theorem small_of {p : PrA} (h1 : p.texts.length ≤ 1000) (h2 : ∀ t ∈ p.texts, t.size ≤ 1000) (h3 : p.codes = []) (h4 : p.statics = .nil) (h5 : p.blocks.length ≤ 1000) (h6 : ∀ b ∈ p.blocks, b.ops.length ≤ 1000 ∧ b.upd.length ≤ 1000 ∧ ∀ o ∈ b.ops, o.l.length ≤ 1000) : Small p := by
  refine ⟨by omega, fun i => ?_, by rw [h3]; exact Nat.zero_le _, fun i => by rw [h3]; exact Nat.zero_le _, by rw [h4]; simp [Fo.sz], by omega, fun i => ⟨?_, ?_⟩, fun i j => ?_⟩
  · have := getD_le (d := (⟨#[]⟩ : ByteArray)) (f := ByteArray.size) h2 (show (0 : Nat) ≤ 1000 by omega) i; omega
  · have := getD_le (d := (default : BlA)) (f := fun b => b.ops.length) (fun b hb => (h6 b hb).1) (Nat.zero_le _) i; omega
  · have := getD_le (d := (default : BlA)) (f := fun b => b.upd.length) (fun b hb => (h6 b hb).2.1) (Nat.zero_le _) i; omega
  · by_cases hi : i < p.blocks.length
    · have hm : p.blocks.getD i default ∈ p.blocks := by
        rw [List.getD_eq_getElem?_getD, List.getElem?_eq_getElem hi]
        exact List.getElem_mem hi
      have := getD_le (d := (default : OpA)) (f := fun o => o.l.length) (h6 _ hm).2.2 (Nat.zero_le _) j
      omega
    · have e : p.blocks.getD i default = default := by rw [List.getD_eq_getElem?_getD, List.getElem?_eq_none (by omega)]; rfl
      rw [e]
      exact Nat.zero_le _
theorem smallA : Small pA := small_of (by decide) (by decide) rfl rfl (by decide) (by decide)
theorem smallB : Small pB := small_of (by decide) (by decide) rfl rfl (by decide) (by decide)
theorem smallC : Small pC := small_of (by decide) (by decide) rfl rfl (by decide) (by decide)

theorem txA : TxV pA.texts swT := ⟨rfl, rfl, rfl, fun i hi => by
  have : i = 0 ∨ i = 1 := by simp [pA] at hi; omega
  rcases this with rfl | rfl
  · exact ⟨_, rfl, rfl⟩
  · exact ⟨_, rfl, rfl⟩⟩
theorem txC : TxV pC.texts .nils := el_nil
theorem cdA : CdV ([] : List (List (Int × Int))) .nils := el_nil
theorem sxA : FoM .nil .nils := .inl ⟨rfl, rfl⟩
theorem opsA3 : OpsV [o3, o1, o6] (.is swO 3 .full) := ⟨rfl, rfl, rfl, fun i hi => by
  have : i = 0 ∨ i = 1 ∨ i = 2 := by simp at hi; omega
  rcases this with rfl | rfl | rfl
  · exact ⟨_, rfl, .nils, rfl, el_nil⟩
  · exact ⟨_, rfl, .nils, rfl, el_nil⟩
  · exact ⟨_, rfl, .nils, rfl, el_nil⟩⟩
theorem opsA2 : OpsV [o3, o1] (.is swO 2 (.cut 3)) := ⟨rfl, rfl, rfl, fun i hi => by
  have : i = 0 ∨ i = 1 := by simp at hi; omega
  rcases this with rfl | rfl
  · exact ⟨_, rfl, .nils, rfl, el_nil⟩
  · exact ⟨_, rfl, .nils, rfl, el_nil⟩⟩
theorem updA : IntV [1] swU := ⟨rfl, rfl, rfl, fun i hi => by
  obtain rfl : i = 0 := by simpa using hi
  exact ⟨_, rfl, rfl⟩⟩
theorem blA {ops : List OpA} {ov : AV} (h : OpsV ops ov) : BlsV [⟨1, ops, [1]⟩] (swB ov) := ⟨rfl, rfl, rfl, fun i hi => by
  obtain rfl : i = 0 := by simpa using hi
  exact ⟨_, rfl, ov, swU, rfl, h, updA⟩⟩
/-- The same, in an object. -/
theorem blM {ops : List OpA} {ov : AV} (h : OpsV ops ov) {st : Sto} {id P : Nat} (hid : st[id]? = some (.cells 0 [.int .i64 1, ov, swU] 0)) (hP : id < P) : BlV P st [⟨1, ops, [1]⟩] (.ms id 0 0 1 3) := ⟨rfl, rfl, rfl, fun i hi => by
  obtain rfl : i = 0 := by simpa using hi
  exact ⟨.mp id 0 0, [.int .i64 1, ov, swU], rfl, rfl, rfl, .inr ⟨id, 0, 0, _, 0, hP, rfl, hid, fun k c hk => by rw [Nat.zero_add]; exact hk⟩, ov, swU, rfl, h, updA⟩⟩

theorem tup3_inj {e : Nat × Nat × Nat} {a b c : Nat} (h : tup3 e = .tup [.int .i64 ((a : Nat) : Int), .int .i64 ((b : Nat) : Int), .int .i64 ((c : Nat) : Int)]) : e = (a, b, c) := by
  unfold tup3 at h
  simp only [AV.tup.injEq, List.cons.injEq, AV.int.injEq, true_and, and_true] at h
  obtain ⟨h1, h2, h3⟩ := h
  obtain ⟨x, y, z⟩ := e
  simp only at h1 h2 h3
  have e1 : x = a := by omega
  have e2 : y = b := by omega
  have e3 : z = c := by omega
  rw [e1, e2, e3]
theorem no_cut : ∀ (row : List AV) (n m : Nat), (AV.nils) = .is row n (.cut m) → n ≤ m := fun _ _ _ h => by cases h
theorem verA_A : verA pA = (0, 0, 0) := by
  have h := verify_spec smallA no_cut (st := []) txA cdA sxA ((blA opsA3).blv _ _) rfl
  rw [run1] at h
  simp only [Option.some.injEq, Prod.mk.injEq, Out.ret.injEq, and_true] at h
  exact tup3_inj h.symm
theorem verA_B : verA pB = (0, 2, 2204) := by
  have h := verify_spec smallB no_cut (st := []) (p := pB) txA cdA sxA ((blA opsA2).blv _ _) rfl
  rw [run2] at h
  simp only [Option.some.injEq, Prod.mk.injEq, Out.ret.injEq, and_true] at h
  exact tup3_inj h.symm
theorem verA_C : verA pC = (0, 0, 2205) := by
  have h := verify_spec smallC no_cut (st := []) (p := pC) txC cdA sxA (BlsV.blv (l := []) el_nil _ _) rfl
  rw [run3] at h
  simp only [Option.some.injEq, Prod.mk.injEq, Out.ret.injEq, and_true] at h
  exact tup3_inj h.symm

theorem small_spec (st : Sto) : CallR ap 11 [] st = some (.ret (.agg [swT, .nils, .nils, .ms (st.length + 1) 0 0 1 3]), (st ++ [Ob.cells 0 [swT, .nils, .nils, .ms (st.length + 1) 0 0 1 3] 0]) ++ [Ob.cells 0 [.int .i64 1, .is swO 3 .full, swU] 0]) := by
  obtain ⟨S0, hS0⟩ : ∃ S0, S0 = st ++ [Ob.cells 0 [.nils, .nils, .nils, .nils] 0] := ⟨_, rfl⟩
  have hl0 : S0.length = st.length + 1 := by rw [hS0]; simp
  have a1 : (litS false 2 1 (fillA (fun i => some (i * 1, 1)) [.str ⟨#[]⟩, .str ⟨#[]⟩] [(0, (.str ⟨#[97]⟩)), (1, (.str ⟨#[112]⟩))]) S0) = some (swT, S0) := rfl
  have a8 : (litS true 1 3 (fillA (fun i => some (i * 3, 3)) [.int .i64 0, .nils, .nils] [(0, .agg [.int .i64 1, .is swO 3 .full, swU])]) S0) = some (.ms (st.length + 1) 0 0 1 3, S0 ++ [Ob.cells 0 [.int .i64 1, .is swO 3 .full, swU] 0]) := by
    have : (fillA (fun i => some (i * 3, 3)) [.int .i64 0, .nils, .nils] [(0, .agg [.int .i64 1, .is swO 3 .full, swU])]) = some [.int .i64 1, .is swO 3 .full, swU] := rfl
    rw [this, ← hl0]
    simp [litS]
  have a9 : (aggA (fillA (fun i => ([(0, 1), (1, 1), (2, 1), (3, 1)] : List (Nat × Nat))[i]?) [.nils, .nils, .nils, .nils] [(0, swT), (3, .ms (st.length + 1) 0 0 1 3)])) = some (.agg [swT, .nils, .nils, .ms (st.length + 1) 0 0 1 3]) := rfl
  have a10 : sto 4 (S0 ++ [Ob.cells 0 [.int .i64 1, .is swO 3 .full, swU] 0]) (.mp st.length 0 0) (.agg [swT, .nils, .nils, .ms (st.length + 1) 0 0 1 3]) = some ((st ++ [Ob.cells 0 [swT, .nils, .nils, .ms (st.length + 1) 0 0 1 3] 0]) ++ [Ob.cells 0 [.int .i64 1, .is swO 3 .full, swU] 0]) := by
    have hg : (S0 ++ [Ob.cells 0 [.int .i64 1, .is swO 3 .full, swU] 0])[st.length]? = some (.cells 0 [.nils, .nils, .nils, .nils] 0) := by rw [hS0, List.append_assoc]; simp
    unfold sto
    rw [show (AV.agg [swT, .nils, .nils, .ms (st.length + 1) 0 0 1 3]).cells = [swT, .nils, .nils, .ms (st.length + 1) 0 0 1 3] from rfl, if_pos (show ([swT, .nils, .nils, .ms (st.length + 1) 0 0 1 3] : List AV).length = 4 from rfl)]
    simp only [stCells, hg]
    rw [if_pos ⟨trivial, Nat.zero_le _, (by show 0 + 4 ≤ 4; omega), rfl⟩, hS0, List.append_assoc, List.set_append_right _ _ (Nat.le_refl _), Nat.sub_self, List.append_assoc]
    rfl
  have a11 : ld true 4 ((st ++ [Ob.cells 0 [swT, .nils, .nils, .ms (st.length + 1) 0 0 1 3] 0]) ++ [Ob.cells 0 [.int .i64 1, .is swO 3 .full, swU] 0]) (.mp st.length 0 0) = some (.agg [swT, .nils, .nils, .ms (st.length + 1) 0 0 1 3]) := m_all (g := 0) (fz := 0) (by rw [List.append_assoc]; simp) rfl
  have hb : stencillaw22_small.b st = some ⟨.ret (.agg [swT, .nils, .nils, .ms (st.length + 1) 0 0 1 3]), none, (st ++ [Ob.cells 0 [swT, .nils, .nils, .ms (st.length + 1) 0 0 1 3] 0]) ++ [Ob.cells 0 [.int .i64 1, .is swO 3 .full, swU] 0]⟩ := by
    rw [stencillaw22_small.b_eq, ← hS0]
    refine (br a1).trans ?_
    refine (br (show _ = some (AV.agg [.int .i64 3, .int .i64 1, .int .i64 0, .int .i64 0, .nils]) from rfl)).trans ?_
    refine (br (show _ = some (AV.agg [.int .i64 1, .int .i64 0, .int .i64 0, .int .i64 0, .nils]) from rfl)).trans ?_
    refine (br (show _ = some (AV.agg [.int .i64 6, .int .i64 0, .int .i64 0, .int .i64 0, .nils]) from rfl)).trans ?_
    refine (br (show _ = some (AV.is swO 3 .full, S0) from rfl)).trans ?_
    refine (br (show _ = some (swU, S0) from rfl)).trans ?_
    refine (br (show _ = some (AV.agg [.int .i64 1, .is swO 3 .full, swU]) from rfl)).trans ?_
    refine (br a8).trans ?_
    refine (br a9).trans ?_
    refine (br a10).trans ?_
    exact br a11
  rw [stencillaw22_small.call, hb]
  simp only [Option.bind_some]
  unfold gc
  rw [if_neg]
  rintro ⟨h, _⟩
  simp only [Out.val, AV.strip, strips, AV.old, olds, Bool.and_eq_true, decide_eq_true_eq] at h
  obtain ⟨_, _, _, h, _⟩ := h
  omega

theorem awake_spec (st : Sto) : CallR ap 6 [] st = some (.ret (.bool true), st) := by
  rw [stencillaw22_awake.call]
  suffices hb : ∃ S', stencillaw22_awake.b st = some ⟨.ret (.bool true), none, S'⟩ ∧ Keeps st.length st S' by
    obtain ⟨S', k1, k2⟩ := hb
    exact ret_keep k1 rfl rfl k2
  obtain ⟨S1, hS1⟩ : ∃ S1, S1 = (st ++ [Ob.cells 0 [swT, .nils, .nils, .ms (st.length + 1) 0 0 1 3] 0]) ++ [Ob.cells 0 [.int .i64 1, .is swO 3 .full, swU] 0] := ⟨_, rfl⟩
  have c1 := small_spec st
  rw [← hS1] at c1
  have hl1 : S1.length = st.length + 2 := by rw [hS1]; simp
  have k1 : Keeps st.length st S1 := by rw [hS1, List.append_assoc]; exact Keeps.app (Nat.le_refl _)
  have g1 : S1[st.length + 1]? = some (.cells 0 [.int .i64 1, .is swO 3 .full, swU] 0) := by rw [hS1, List.append_assoc]; simp
  have v1 := verify_spec smallA no_cut (st := S1) txA cdA sxA (blM opsA3 g1 (by omega)) rfl
  rw [verA_A] at v1
  obtain ⟨S2, hS2⟩ : ∃ S2, S2 = (S1 ++ [Ob.cells 0 [swT, .nils, .nils, .ms (S1.length + 1) 0 0 1 3] 0]) ++ [Ob.cells 0 [.int .i64 1, .is swO 3 .full, swU] 0] := ⟨_, rfl⟩
  have c2 := small_spec S1
  rw [← hS2] at c2
  have hl2 : S2.length = S1.length + 2 := by rw [hS2]; simp
  have k2 : Keeps st.length S1 S2 := by rw [hS2, List.append_assoc]; exact Keeps.app (by omega)
  obtain ⟨S3, hS3⟩ : ∃ S3, S3 = S2 ++ [Ob.cells 0 [swT, .nils, .nils, .ms (S1.length + 1) 0 0 1 3] 0] := ⟨_, rfl⟩
  have s3 : sto 4 (S2 ++ [Ob.cells 0 [.nils, .nils, .nils, .nils] 0]) (.mp S2.length 0 0) (.agg [swT, .nils, .nils, .ms (S1.length + 1) 0 0 1 3]) = some S3 := by rw [hS3]; exact m_new (cs := [.nils, .nils, .nils, .nils]) (cs' := [swT, .nils, .nils, .ms (S1.length + 1) 0 0 1 3]) rfl rfl rfl
  have k3 : Keeps st.length S2 S3 := by rw [hS3]; exact Keeps.app (by omega)
  have gp : S3[S2.length]? = some (.cells 0 [swT, .nils, .nils, .ms (S1.length + 1) 0 0 1 3] 0) := by rw [hS3]; simp
  have gb : S3[S1.length + 1]? = some (.cells 0 [.int .i64 1, .is swO 3 .full, swU] 0) := by rw [hS3]; exact app_get (by rw [hS2, List.append_assoc]; simp)
  have hl3 : S3.length = S2.length + 1 := by rw [hS3]; simp
  have r3 : ld false 1 S3 (.mp S2.length 0 3) = some (.ms (S1.length + 1) 0 0 1 3) := m_get gp rfl
  have ri : ia 3 (.ms (S1.length + 1) 0 0 1 3) (.int .i64 0) = some (.mp (S1.length + 1) 0 0) := rfl
  have rf : fa 1 1 (.mp (S1.length + 1) 0 0) = some (.mp (S1.length + 1) 0 1) := rfl
  have ro : ld false 1 S3 (.mp (S1.length + 1) 0 1) = some (.is swO 3 .full) := m_get gb rfl
  have rc : cutL 5 (.is swO 3 .full) none (some (.int .i64 2)) = some (.is swO 2 (.cut 3)) := rfl
  obtain ⟨S4, hS4⟩ : ∃ S4, S4 = S3.set (S1.length + 1) (.cells 0 [.int .i64 1, .is swO 2 (.cut 3), swU] 0) := ⟨_, rfl⟩
  have s4 : sto 1 S3 (.mp (S1.length + 1) 0 1) (.is swO 2 (.cut 3)) = some S4 := by
    rw [sto_at gb (by decide) rfl rfl, hS4]
    rfl
  have k4 : Keeps st.length S3 S4 := by rw [hS4]; exact Keeps.set (by omega)
  have gp4 : ld true 4 S4 (.mp S2.length 0 0) = some (.agg [swT, .nils, .nils, .ms (S1.length + 1) 0 0 1 3]) := m_all (g := 0) (fz := 0) (by rw [hS4, List.getElem?_set_ne (by omega)]; exact gp) rfl
  have gb4 : S4[S1.length + 1]? = some (.cells 0 [.int .i64 1, .is swO 2 (.cut 3), swU] 0) := by rw [hS4]; exact List.getElem?_set_self (by omega)
  have hl4 : S4.length = S3.length := by rw [hS4]; simp
  have v2 := verify_spec smallB no_cut (st := S4) (p := pB) txA cdA sxA (blM opsA2 gb4 (by omega)) rfl
  rw [verA_B] at v2
  have v3 := verify_spec smallC no_cut (st := S4) (p := pC) txC cdA sxA (BlsV.blv (l := []) el_nil _ _) rfl
  rw [verA_C] at v3
  refine ⟨S4, ?_, k1.trans (k2.trans (k3.trans k4))⟩
  rw [stencillaw22_awake.b_eq]
  refine (cr c1).trans ?_
  refine (cr v1).trans ?_
  refine (br (x0 _ _)).trans ?_
  refine (br (x1 _ _ _)).trans ?_
  refine (br (x2 _ _ _ _)).trans ?_
  refine (cr c2).trans ?_
  refine (br s3).trans ?_
  refine (br r3).trans ?_
  refine (br r3).trans ?_
  refine (br ri).trans ?_
  refine (br rf).trans ?_
  refine (br ro).trans ?_
  refine (br rc).trans ?_
  refine (br ri).trans ?_
  refine (br rf).trans ?_
  refine (br s4).trans ?_
  refine (br gp4).trans ?_
  refine (cr v2).trans ?_
  refine (br (x0 _ _)).trans ?_
  refine (br (x1 _ _ _)).trans ?_
  refine (br (x2 _ _ _ _)).trans ?_
  refine (br (show _ = some (AV.agg [.nils, .nils, .nils, .nils]) from rfl)).trans ?_
  refine (cr v3).trans ?_
  refine (br (x0 _ _)).trans ?_
  refine (br (x1 _ _ _)).trans ?_
  refine (br (x2 _ _ _ _)).trans ?_
  refine (cr (num_spec _ S4)).trans ?_
  refine (br (aI _)).trans ?_
  refine (bt rfl).trans ?_
  refine (cr (num_spec _ S4)).trans ?_
  refine (br (aI _)).trans ?_
  refine (bt rfl).trans ?_
  refine (br (aI _)).trans ?_
  refine (bt rfl).trans ?_
  refine (cr (num_spec _ S4)).trans ?_
  exact br (aI _)
end Go.Proofs.YtcgepgahgihojaaDoor
