/- Cores: nodes of a chain. -/
import Derived.Test.YtnjpbbiolngfkaaDoorPE
namespace Go.Proofs.YtnjpbbiolngfkaaDoor
open Go.St Go.Lib
set_option linter.unusedVariables false
set_option linter.unusedSimpArgs false

variable {R : Type}
theorem rdM {B g fz k : Nat} {S : Sto} {cs : List AV} {c : AV} (h : S[B]? = some (.cells g cs fz)) (hk : cs[k]? = some c) {F : AV → AV → Option R} : ((nilCk (.mp B g 0)).bind fun v1 => (fa k 1 v1).bind fun v2 => (ld false 1 S v2).bind fun v3 => F v2 v3) = F (.mp B g (0 + k)) c := by
  have hn : nilCk (.mp B g 0) = some (.mp B g 0) := rfl
  have hf : fa k 1 (.mp B g 0) = some (.mp B g (0 + k)) := rfl
  rw [hn, Option.bind_some, hf, Option.bind_some, m_get (n := 0 + k) h (by rw [Nat.zero_add]; exact hk), Option.bind_some]
theorem wrM {B k : Nat} {S : Sto} {cs : List AV} {x : AV} (h : S[B]? = some (.cells 0 cs 0)) (hk : k < cs.length) (hx : x.isCell = true) (hc : x.cells = [x]) {F : Sto → Option Res} : ((nilCk (.mp B 0 0)).bind fun v1 => (fa k 1 v1).bind fun v2 => (sto 1 S v2 x).bind fun s => F s) = F (S.set B (.cells 0 (cs.set k x) 0)) := by
  have hn : nilCk (.mp B 0 0) = some (.mp B 0 0) := rfl
  have hf : fa k 1 (.mp B 0 0) = some (.mp B 0 (0 + k)) := rfl
  rw [hn, Option.bind_some, hf, Option.bind_some, sto_at h (by rw [Nat.zero_add]; exact hk) hx hc, Option.bind_some, Nat.zero_add]
theorem sto_all {st : Sto} {id : Nat} {cs cs' : List AV} (h : st[id]? = some (.cells 0 cs 0)) (hc : cs'.all AV.isCell = true) {n : Nat} (hn : cs'.length = n) (hn' : cs.length = n) : sto n st (.mp id 0 0) (.agg cs') = some (st.set id (.cells 0 cs' 0)) := by
  have h2 : cs'.length ≤ cs.length := by omega
  have h4 : ((AV.agg cs').cells) = cs' := rfl
  unfold sto
  rw [h4, if_pos hn]
  simp only [stCells, h, h2, hc, Nat.le_refl, true_and, and_self, if_true, splice, List.take_zero, List.nil_append, Nat.zero_add]
  rw [List.drop_of_length_le (by omega), List.append_nil]

def lk (c p m e : Int) : List AV := [.int .i64 c, .int .i64 p, .int .i64 m, .int .i64 e]
def ar (s : Int) : List AV := [.int .i64 s, .int .i64 0, .int .i64 0]
def okB (pl n : Int) : Bool := decide (0 ≤ pl ∧ pl < n)

theorem nodes_nil (X : Nat) (s : Int) (S : Sto) : CallR ap 23 [.mp X 0 0, .nils, .agg (ar s)] S = some (.ret (.bool true), S ++ [Ob.cells 0 (ar s) 0]) := by
  have hb : core_looker_nodes.b (.mp X 0 0) .nils (.agg (ar s)) S = some ⟨.ret (.bool true), none, S ++ [Ob.cells 0 (ar s) 0]⟩ := by
    rw [core_looker_nodes.b_eq]
    refine (it rfl).trans ?_
    refine (br rfl).trans ?_
    rw [core_looker_nodes.p10100_eq]
    exact bf rfl
  rw [core_looker_nodes.call, hb]
  rfl

section
variable {X : Nat} {S T : Sto} {W : List AV} {s s' c p : Int} {b : Bool}

/-- A node itself. -/
theorem nodes_one (hX : S[X]? = some (.cells 0 (lk c p 0 0) 0)) (hia : ia 7 (row W) (.int .i64 0) = some (.ip W)) (hbeh : ∀ S, CallR ap 28 [.agg (ar s), .ip W] S = some (.ret (.agg (ar s')), S)) (hpc : ∀ S, CallR ap 29 [.ip W, .int .i64 4096] S = some (.ret (.int .i64 3), S)) (hfm : ∀ S, CallR ap 30 [.ip W] S = some (.ret (.bool true), S))
    (hmay : ∀ S, CallR ap 31 [.ip W, .int .i64 s, .fn (.func 32) [] []] S = some (.ret (.bool true), S)) (hpl : ∀ S, CallR ap 31 [.ip W, .int .i64 s, .fn (.func 33) [] []] S = some (.ret (.bool b), S)) (hc : 0 ≤ c ∧ c ≤ 1000) (hp : 0 ≤ p ∧ p ≤ 3000) (hs : s' ≤ 64) :
    core_looker_nodes.b (.mp X 0 0) (row W) (.agg (ar s)) S = core_looker_nodes.p101001100111111 (.mp X 0 0) (row W) S.length (.ip W) (S.length + 1) 1 0 (((S ++ [Ob.cells 0 (ar s) 0]) ++ [Ob.cells 0 (ar s') 0]).set X (.cells 0 (lk (c + 1) (p + 3) 0 (if b = true then 0 else 1502)) 0)) := by
  have hXl := (List.getElem?_eq_some_iff.1 hX).1
  have w1 : IntKind.wrap .i64 (c + 1) = c + 1 := wrap64 (by omega) (by omega)
  have w3 : IntKind.wrap .i64 (p + 3) = p + 3 := wrap64 (by omega) (by omega)
  obtain ⟨S1, hS1⟩ : ∃ S1, S1 = S ++ [Ob.cells 0 (ar s) 0] := ⟨_, rfl⟩
  have l1 : S1.length = S.length + 1 := by rw [hS1]; simp
  obtain ⟨S2, hS2⟩ : ∃ S2, S2 = S1 ++ [Ob.cells 0 (ar s') 0] := ⟨_, rfl⟩
  have l2 : S2.length = S.length + 2 := by rw [hS2]; simp [l1]
  have g1 : S1[S.length]? = some (.cells 0 (ar s) 0) := by rw [hS1]; exact last_get
  have hX2 : S2[X]? = some (.cells 0 (lk c p 0 0) 0) := by rw [hS2]; exact app_get (by rw [hS1]; exact app_get hX)
  have g2 : S2[S.length]? = some (.cells 0 (ar s) 0) := by rw [hS2]; exact app_get g1
  have g3 : S2[S1.length]? = some (.cells 0 (ar s') 0) := by rw [hS2]; exact last_get
  obtain ⟨S3, hS3⟩ : ∃ S3, S3 = S2.set X (.cells 0 (lk (c + 1) p 0 0) 0) := ⟨_, rfl⟩
  have hX3 : S3[X]? = some (.cells 0 (lk (c + 1) p 0 0) 0) := by rw [hS3]; exact List.getElem?_set_self (by omega)
  obtain ⟨S4, hS4⟩ : ∃ S4, S4 = S3.set X (.cells 0 (lk (c + 1) (p + 3) 0 0) 0) := ⟨_, rfl⟩
  have l3 : S3.length = S.length + 2 := by rw [hS3]; simp [l2]
  have hX4 : S4[X]? = some (.cells 0 (lk (c + 1) (p + 3) 0 0) 0) := by rw [hS4]; exact List.getElem?_set_self (by omega)
  have h44 : S4 = S2.set X (.cells 0 (lk (c + 1) (p + 3) 0 0) 0) := by rw [hS4, hS3, List.set_set]
  have q2 : S4[S.length]? = some (.cells 0 (ar s) 0) := by rw [h44, List.getElem?_set_ne (by omega)]; exact g2
  have q3 : S4[S1.length]? = some (.cells 0 (ar s') 0) := by rw [h44, List.getElem?_set_ne (by omega)]; exact g3
  rw [core_looker_nodes.b_eq]
  refine (it rfl).trans ?_
  refine (br rfl).trans ?_
  show core_looker_nodes.p10100 (.mp X 0 0) (row W) S.length 1 0 (S ++ [Ob.cells 0 (ar s) 0]) = _
  rw [core_looker_nodes.p10100_eq, ← hS1]
  refine (bt rfl).trans ?_
  refine (br hia).trans ?_
  refine (br (m_all g1 rfl)).trans ?_
  refine (cr (hbeh S1)).trans ?_
  refine (br (m_new (cs := [.int .i64 0, .int .i64 0, .int .i64 0]) (cs' := ar s') rfl rfl rfl)).trans ?_
  rw [← hS2]
  refine (rdM hX2 (k := 0) rfl).trans ?_
  refine (br (aI _)).trans ?_
  rw [w1]
  refine (wrM hX2 (by show 0 < 4; omega) rfl rfl).trans ?_
  rw [show S2.set X (.cells 0 ((lk c p 0 0).set 0 (.int .i64 (c + 1))) 0) = S3 from hS3.symm]
  refine (rdM hX3 (k := 1) rfl).trans ?_
  refine (cr (hpc S3)).trans ?_
  refine (it rfl).trans ?_
  refine (br (aI _)).trans ?_
  refine (br (aI _)).trans ?_
  rw [w3]
  refine (wrM hX3 (by show 1 < 4; omega) rfl rfl).trans ?_
  rw [show S3.set X (.cells 0 ((lk (c + 1) p 0 0).set 1 (.int .i64 (p + 3))) 0) = S4 from hS4.symm]
  refine (rdM hX4 (k := 1) rfl).trans ?_
  refine (br (aI _)).trans ?_
  refine (bf (dfalse (by omega))).trans ?_
  refine (br (m_get (n := 0) q3 rfl)).trans ?_
  refine (br (aI _)).trans ?_
  refine (bf (dfalse (by omega))).trans ?_
  refine (br (m_get (n := 1) q3 rfl)).trans ?_
  refine (br (aI _)).trans ?_
  refine (bf rfl).trans ?_
  refine (br (m_get (n := 2) q3 rfl)).trans ?_
  refine (br (aI _)).trans ?_
  rw [core_looker_nodes.p1010011001111100111_eq]
  refine (bf rfl).trans ?_
  refine (cr (hfm S4)).trans ?_
  refine (br (aB _)).trans ?_
  refine (bf rfl).trans ?_
  refine (br (m_get (n := 0) q2 rfl)).trans ?_
  refine (cr (hmay S4)).trans ?_
  refine (br (aB _)).trans ?_
  refine (bf rfl).trans ?_
  refine (br (m_get (n := 0) q2 rfl)).trans ?_
  refine (cr (hpl S4)).trans ?_
  refine (br (aB _)).trans ?_
  cases b with
  | true =>
    refine (bf rfl).trans ?_
    rw [l1, h44]
    rfl
  | false =>
    refine (bt rfl).trans ?_
    refine (wrM hX4 (by show 3 < 4; omega) rfl rfl).trans ?_
    rw [l1, h44, List.set_set]
    rfl

/-- Behind a node: the kids, what else. -/
theorem nodes_after {K : AV} {t5 t9 : Nat} {T2 : Sto} (hX : T[X]? = some (.cells 0 (lk c p 0 0) 0)) (h9 : T[t9]? = some (.cells 0 (ar s') 0)) (h5 : fa 5 1 (.ip W) = some (.ip [K])) (h6 : fa 6 1 (.ip W) = some (.ip [.nils])) (hk : CallR ap 23 [.mp X 0 0, K, .agg (ar s')] T = some (.ret (.bool b), T2)) (h92 : T2[t9]? = some (.cells 0 (ar s') 0)) :
    core_looker_nodes.p101001100111111 (.mp X 0 0) (row W) t5 (.ip W) t9 1 0 T = some ⟨.ret (.bool b), none, if b = true then T2 ++ [Ob.cells 0 (ar s') 0] else T2⟩ := by
  have hmx : mxI 0 0 = 0 := rfl
  rw [core_looker_nodes.p101001100111111_eq]
  refine (rdM hX (k := 2) rfl).trans ?_
  refine (br (m_get (n := 2) h9 rfl)).trans ?_
  refine (br (aI _)).trans ?_
  refine (br (aI _)).trans ?_
  rw [hmx]
  refine (wrM hX (by show 2 < 4; omega) rfl rfl).trans ?_
  rw [show T.set X (.cells 0 ((lk c p 0 0).set 2 (.int .i64 0)) 0) = T from set_same hX]
  refine (rdM hX (k := 3) rfl).trans ?_
  refine (br (aI _)).trans ?_
  refine (bf rfl).trans ?_
  refine (br rfl).trans ?_
  refine (br h5).trans ?_
  refine (br (show ld false 1 T (.ip [K]) = some K from rfl)).trans ?_
  refine (br (m_all h9 rfl)).trans ?_
  refine (cr hk).trans ?_
  refine (br (aB _)).trans ?_
  cases b with
  | false =>
    refine (bt rfl).trans ?_
    rw [core_looker_nodes.p10100110011111111_eq]
    rfl
  | true =>
    refine (bf rfl).trans ?_
    refine (br rfl).trans ?_
    refine (br h6).trans ?_
    refine (br rfl).trans ?_
    refine (br (m_all h92 rfl)).trans ?_
    refine (cr (nodes_nil X s' T2)).trans ?_
    refine (br (aB _)).trans ?_
    rw [core_looker_nodes.p10100110011111111_eq]
    refine (bf rfl).trans ?_
    rw [core_looker_nodes.p10100_eq]
    exact bf rfl
/-- A fault. -/
theorem nodes_fault {t5 t9 : Nat} {e : Int} (hX : T[X]? = some (.cells 0 (lk c p 0 e) 0)) (he : e ≠ 0) (h9 : T[t9]? = some (.cells 0 (ar s') 0)) :
    core_looker_nodes.p101001100111111 (.mp X 0 0) (row W) t5 (.ip W) t9 1 0 T = some ⟨.ret (.bool false), none, T⟩ := by
  have hmx : mxI 0 0 = 0 := rfl
  rw [core_looker_nodes.p101001100111111_eq]
  refine (rdM hX (k := 2) rfl).trans ?_
  refine (br (m_get (n := 2) h9 rfl)).trans ?_
  refine (br (aI _)).trans ?_
  refine (br (aI _)).trans ?_
  rw [hmx]
  refine (wrM hX (by show 2 < 4; omega) rfl rfl).trans ?_
  rw [show T.set X (.cells 0 ((lk c p 0 e).set 2 (.int .i64 0)) 0) = T from set_same hX]
  refine (rdM hX (k := 3) rfl).trans ?_
  refine (br (aI _)).trans ?_
  refine (bt (by rw [dfalse he]; rfl)).trans ?_
  rw [core_looker_nodes.p10100110011111111_eq]
  rfl
end

theorem chain_nodes (pl : Int) : ∀ (j : Nat) (s c p : Int) (S : Sto) (X : Nat), 0 ≤ s → s + ((j : Nat) : Int) ≤ 64 → 0 ≤ c → c + ((j : Nat) : Int) ≤ 200 → 0 ≤ p → p + 3 * ((j : Nat) : Int) ≤ 1000 → S[X]? = some (.cells 0 (lk c p 0 0) 0) →
    ∃ S', CallR ap 23 [.mp X 0 0, chain pl j, .agg (ar s)] S = some (.ret (.bool (okB pl (s + ((j : Nat) : Int)))), S') ∧ S'[X]? = some (.cells 0 (lk (c + ((j : Nat) : Int) + 1) (p + 3 * (((j : Nat) : Int) + 1)) 0 (if okB pl (s + ((j : Nat) : Int)) = true then 0 else 1502)) 0) ∧ S.length ≤ S'.length ∧ ∀ (i : Nat) (o : Ob), i ≠ X → S[i]? = some o → S'[i]? = some o := by
  intro j
  induction j with
  | zero =>
    intro s c p S X hs0 hs1 hc0 hc1 hp0 hp1 hX
    have hXl := (List.getElem?_eq_some_iff.1 hX).1
    have es : s + (((0 : Nat) : Nat) : Int) = s := by simp
    rw [es]
    have hmay : ∀ S, CallR ap 31 [.ip (tC pl), .int .i64 s, .fn (.func 32) [] []] S = some (.ret (.bool true), S) := fun S => exprsT (mayV pl s S)
    have hpl : ∀ S, CallR ap 31 [.ip (tC pl), .int .i64 s, .fn (.func 33) [] []] S = some (.ret (.bool (okB pl s)), S) := fun S => exprsT (placedV pl s S)
    have h1 := nodes_one (b := okB pl s) (s := s) (s' := s) hX rfl (fun S => behindT s 0 0 pl S) (fun S => piecesT pl S) (fun S => formedT pl S) hmay hpl ⟨hc0, by omega⟩ ⟨hp0, by omega⟩ (by omega)
    obtain ⟨T, hT⟩ : ∃ T, T = (((S ++ [Ob.cells 0 (ar s) 0]) ++ [Ob.cells 0 (ar s) 0]).set X (.cells 0 (lk (c + 1) (p + 3) 0 (if okB pl s = true then 0 else 1502)) 0)) := ⟨_, rfl⟩
    rw [← hT] at h1
    have e1 : (S ++ [Ob.cells 0 (ar s) 0]).length = S.length + 1 := by simp
    have hlT : T.length = S.length + 2 := by rw [hT]; simp
    have hXT : T[X]? = some (.cells 0 (lk (c + 1) (p + 3) 0 (if okB pl s = true then 0 else 1502)) 0) := by rw [hT]; exact List.getElem?_set_self (by simp; omega)
    have h9 : T[S.length + 1]? = some (.cells 0 (ar s) 0) := by rw [hT, List.getElem?_set_ne (by omega), ← e1]; exact last_get
    have hkeep : ∀ (i : Nat) (o : Ob), i ≠ X → S[i]? = some o → T[i]? = some o := fun i o hi ho => by
      rw [hT, List.getElem?_set_ne hi.symm]
      exact app_get (app_get ho)
    cases hok : okB pl s with
    | true =>
      rw [hok, if_pos rfl] at hXT
      have ha := nodes_after (X := X) (T := T) (W := tC pl) (s' := s) (b := true) (t5 := S.length) (t9 := S.length + 1) (K := .nils) hXT h9 rfl rfl (nodes_nil X s T) (app_get h9)
      rw [if_pos rfl] at ha
      refine ⟨(T ++ [Ob.cells 0 (ar s) 0]) ++ [Ob.cells 0 (ar s) 0], ?_, ?_, ?_, fun i o hi ho => app_get (app_get (hkeep i o hi ho))⟩
      · show CallR ap 23 [.mp X 0 0, row (tC pl), .agg (ar s)] S = _
        rw [core_looker_nodes.call, h1, ha]
        rfl
      · rw [if_pos rfl]
        rw [app_get (app_get hXT)]
        simp
      · simp; omega
    | false =>
      rw [hok, if_neg (by simp)] at hXT
      have ha := nodes_fault (X := X) (T := T) (W := tC pl) (s' := s) (t5 := S.length) (t9 := S.length + 1) hXT (by decide) h9
      refine ⟨T, ?_, ?_, by omega, hkeep⟩
      · show CallR ap 23 [.mp X 0 0, row (tC pl), .agg (ar s)] S = _
        rw [core_looker_nodes.call, h1, ha]
        rfl
      · rw [if_neg (by simp), hXT]
        simp
  | succ j ih =>
    intro s c p S X hs0 hs1 hc0 hc1 hp0 hp1 hX
    have hXl := (List.getElem?_eq_some_iff.1 hX).1
    have hsb : 0 ≤ s ∧ s ≤ 1000 := by omega
    have hmay : ∀ S, CallR ap 31 [.ip (wC (chain pl j)), .int .i64 s, .fn (.func 32) [] []] S = some (.ret (.bool true), S) := fun S => exprsW hsb (mayN s S)
    have hpl : ∀ S, CallR ap 31 [.ip (wC (chain pl j)), .int .i64 s, .fn (.func 33) [] []] S = some (.ret (.bool true), S) := fun S => exprsW hsb (placedN s S)
    have h1 := nodes_one (b := true) (s := s) (s' := s + 1) hX rfl (fun S => behindW s 0 0 hsb (chain pl j) S) (fun S => piecesW (chain pl j) S) (fun S => formedW (chain pl j) S) hmay hpl ⟨hc0, by omega⟩ ⟨hp0, by omega⟩ (by omega)
    rw [if_pos rfl] at h1
    obtain ⟨T, hT⟩ : ∃ T, T = (((S ++ [Ob.cells 0 (ar s) 0]) ++ [Ob.cells 0 (ar (s + 1)) 0]).set X (.cells 0 (lk (c + 1) (p + 3) 0 0) 0)) := ⟨_, rfl⟩
    rw [← hT] at h1
    have e1 : (S ++ [Ob.cells 0 (ar s) 0]).length = S.length + 1 := by simp
    have hlT : T.length = S.length + 2 := by rw [hT]; simp
    have hXT : T[X]? = some (.cells 0 (lk (c + 1) (p + 3) 0 0) 0) := by rw [hT]; exact List.getElem?_set_self (by simp; omega)
    have h9 : T[S.length + 1]? = some (.cells 0 (ar (s + 1)) 0) := by rw [hT, List.getElem?_set_ne (by omega), ← e1]; exact last_get
    have hkeep : ∀ (i : Nat) (o : Ob), i ≠ X → S[i]? = some o → T[i]? = some o := fun i o hi ho => by
      rw [hT, List.getElem?_set_ne hi.symm]
      exact app_get (app_get ho)
    obtain ⟨T2, k1, k2, k3, k4⟩ := ih (s + 1) (c + 1) (p + 3) T X (by omega) (by omega) (by omega) (by omega) (by omega) (by omega) hXT
    have es : s + 1 + ((j : Nat) : Int) = s + ((j + 1 : Nat) : Int) := by omega
    have ec : c + 1 + ((j : Nat) : Int) + 1 = c + ((j + 1 : Nat) : Int) + 1 := by omega
    have ep : p + 3 + 3 * (((j : Nat) : Int) + 1) = p + 3 * (((j + 1 : Nat) : Int) + 1) := by omega
    rw [es] at k1 k2
    rw [ec, ep] at k2
    have h92 : T2[S.length + 1]? = some (.cells 0 (ar (s + 1)) 0) := k4 _ _ (by omega) h9
    have ha := nodes_after (X := X) (T := T) (W := wC (chain pl j)) (s' := s + 1) (t5 := S.length) (t9 := S.length + 1) (K := chain pl j) hXT h9 rfl rfl k1 h92
    refine ⟨(if okB pl (s + ((j + 1 : Nat) : Int)) = true then T2 ++ [Ob.cells 0 (ar (s + 1)) 0] else T2), ?_, ?_, ?_, ?_⟩
    · show CallR ap 23 [.mp X 0 0, row (wC (chain pl j)), .agg (ar s)] S = _
      rw [core_looker_nodes.call, h1, ha]
      rfl
    · split
      · rename_i hok
        rw [if_pos hok] at k2
        exact app_get k2
      · rename_i hok
        rw [if_neg hok] at k2
        exact k2
    · split
      · simp; omega
      · omega
    · intro i o hi ho
      have := k4 i o hi (hkeep i o hi ho)
      split
      · exact app_get this
      · exact this

/-! ### What a look at a chain tells -/
def lkR (pl : Int) (k : Nat) : List AV := if okB pl (1 + ((k : Nat) : Int)) = true then lk (((k : Nat) : Int) + 1) (3 * (((k : Nat) : Int) + 1)) 0 0 else lk 0 0 0 1502
theorem looked_spec (pl : Int) (k : Nat) (hk : k ≤ 63) (st : Sto) : CallR ap 16 [chain pl k] st = some (.ret (.agg (lkR pl k)), st) := by
  obtain ⟨S0, hS0⟩ : ∃ S0, S0 = st ++ [Ob.cells 0 (lk 0 0 0 0) 0] := ⟨_, rfl⟩
  have l0 : S0.length = st.length + 1 := by rw [hS0]; simp
  obtain ⟨S, hS⟩ : ∃ S, S = S0 ++ [Ob.cells 0 (lk 0 0 0 0) 0] := ⟨_, rfl⟩
  have hX : S[S0.length]? = some (.cells 0 (lk 0 0 0 0) 0) := by rw [hS]; exact last_get
  have hR : S[st.length]? = some (.cells 0 (lk 0 0 0 0) 0) := by rw [hS]; exact app_get (by rw [hS0]; exact last_get)
  obtain ⟨S', k1, k2, k3, k4⟩ := chain_nodes pl k 1 0 0 S S0.length (by omega) (by omega) (by omega) (by omega) (by omega) (by omega) hX
  have hR' := k4 st.length _ (by omega) hR
  have hRl := (List.getElem?_eq_some_iff.1 hR').1
  have hkk : Keeps st.length st S' := ⟨by have : S.length = st.length + 2 := by rw [hS]; simp [l0]
                                          omega, fun i hi => by
    obtain ⟨o, ho⟩ : ∃ o, st[i]? = some o := ⟨_, List.getElem?_eq_getElem hi⟩
    rw [ho, k4 i o (by omega) (by rw [hS]; exact app_get (by rw [hS0]; exact app_get ho))]⟩
  have hall : ∀ a b c d : Int, (lk a b c d).all AV.isCell = true := fun _ _ _ _ => rfl
  rw [core_looked.call]
  refine ret_keep (st' := S'.set st.length (.cells 0 (lkR pl k) 0)) ?_ ?_ ?_ (hkk.trans (Keeps.set (Nat.le_refl _)))
  · rw [core_looked.b_eq]
    refine (br (show _ = some (AV.agg (ar 1)) from rfl)).trans ?_
    show ((CallR ap 23 [.mp (st ++ [Ob.cells 0 (lk 0 0 0 0) 0]).length 0 0, chain pl k, .agg (ar 1)] ((st ++ [Ob.cells 0 (lk 0 0 0 0) 0]) ++ [Ob.cells 0 (lk 0 0 0 0) 0])).bind _) = _
    rw [← hS0, ← hS]
    refine (cr k1).trans ?_
    refine (br (aB _)).trans ?_
    unfold lkR
    cases hok : okB pl (1 + ((k : Nat) : Int)) with
    | true =>
      rw [hok, if_pos rfl] at k2
      refine (bf rfl).trans ?_
      have hX0 : (st ++ [Ob.cells 0 (lk 0 0 0 0) 0]).length = S0.length := by rw [hS0]
      refine (br (show ld true 4 S' (.mp (st ++ [Ob.cells 0 (lk 0 0 0 0) 0]).length 0 0) = some (.agg (lk (0 + ((k : Nat) : Int) + 1) (0 + 3 * (((k : Nat) : Int) + 1)) 0 0)) from by rw [hX0]; exact m_all k2 rfl)).trans ?_
      refine (br (sto_all (n := 4) (cs' := lk (0 + ((k : Nat) : Int) + 1) (0 + 3 * (((k : Nat) : Int) + 1)) 0 0) hR' (hall _ _ _ _) rfl rfl)).trans ?_
      rw [if_pos rfl]
      have e1 : (0 : Int) + ((k : Nat) : Int) + 1 = ((k : Nat) : Int) + 1 := by omega
      have e2 : (0 : Int) + 3 * (((k : Nat) : Int) + 1) = 3 * (((k : Nat) : Int) + 1) := by omega
      rw [e1, e2]
      exact br (m_all (List.getElem?_set_self hRl) rfl)
    | false =>
      rw [hok, if_neg (by simp)] at k2
      refine (bt rfl).trans ?_
      have hX0 : (st ++ [Ob.cells 0 (lk 0 0 0 0) 0]).length = S0.length := by rw [hS0]
      refine (br (show ld false 1 S' (.mp (st ++ [Ob.cells 0 (lk 0 0 0 0) 0]).length 0 3) = some (.int .i64 1502) from by rw [hX0]; exact m_get (n := 3) k2 rfl)).trans ?_
      refine (br (show _ = some (AV.agg (lk 0 0 0 1502)) from rfl)).trans ?_
      refine (br (sto_all (n := 4) (cs' := lk 0 0 0 1502) hR' (hall _ _ _ _) rfl rfl)).trans ?_
      rw [if_neg (by simp)]
      exact br (m_all (List.getElem?_set_self hRl) rfl)
  · unfold lkR; split <;> rfl
  · unfold lkR; split <;> rfl
theorem check_spec (pl : Int) (k : Nat) (hk : k ≤ 63) (st : Sto) : CallR ap 8 [chain pl k] st = some (.ret (.int .i64 (if okB pl (1 + ((k : Nat) : Int)) = true then 0 else 1502)), st) := by
  rw [core_Check.call]
  refine ret_keep (st' := st) ?_ rfl rfl (Keeps.refl _ _)
  rw [core_Check.b_eq]
  refine (cr (looked_spec pl k hk st)).trans ?_
  unfold lkR
  split <;> rfl
theorem count_spec (pl : Int) (k : Nat) (hk : k ≤ 63) (st : Sto) : CallR ap 10 [chain pl k] st = some (.ret (.int .i64 (if okB pl (1 + ((k : Nat) : Int)) = true then ((k : Nat) : Int) + 1 else 0)), st) := by
  rw [core_Count.call]
  refine ret_keep (st' := st) ?_ rfl rfl (Keeps.refl _ _)
  rw [core_Count.b_eq]
  refine (cr (looked_spec pl k hk st)).trans ?_
  unfold lkR
  split <;> rfl
end Go.Proofs.YtnjpbbiolngfkaaDoor
