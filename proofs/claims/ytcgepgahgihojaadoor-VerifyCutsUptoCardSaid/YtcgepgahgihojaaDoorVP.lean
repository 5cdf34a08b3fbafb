/- Programs: what they are to the machine; numbers, texts, an operation's codes and blocks. -/
import Derived.Test.YtcgepgahgihojaaDoorCC
namespace Go.Proofs.YtcgepgahgihojaaDoor
open Go.St Go.Lib
set_option linter.unusedVariables false
set_option linter.unusedSimpArgs false

/-! ### Rows that grow -/
def BufT (es n : Nat) (st : Sto) (x : AV) (cells : List AV) (len : Nat) : Prop :=
  (x = .nils ∧ cells = [] ∧ len = 0) ∨ ∃ i g, n ≤ i ∧ x = .is cells len (.tip i g es) ∧ st[i]? = some (.tip g) ∧ cells.length = len * es
theorem bufT_add {es bytes n : Nat} {st : Sto} {x : AV} {acc new : List AV} {len k : Nat} {str : Bool} {y : AV} (h : BufT es n st x acc len) (hn : n ≤ st.length) (hy : tailOf str es st y = some (new, k)) (h0 : 0 < k) (hnew : new.length = k * es) (hr : room bytes (len + k) = true) :
    ∃ x' st', appL false str es bytes x y st = some (x', st') ∧ BufT es n st' x' (acc ++ new) (len + k) ∧ Keeps n st st' ∧ st.length ≤ st'.length := by
  unfold appL
  simp only [hy, Option.bind_some]
  have hk : ¬ k = 0 := by omega
  rcases h with ⟨rfl, rfl, rfl⟩ | ⟨i, g, hi, rfl, hst, hl⟩
  · rw [Nat.zero_add] at *
    simp only [hk, if_false, hr, if_true, Bool.false_eq_true, List.nil_append]
    exact ⟨_, _, rfl, .inr ⟨st.length, 0, hn, rfl, by simp, by rw [hnew]⟩, Keeps.app hn, by simp⟩
  · simp only [hl, true_and, hr, if_true, hst]
    refine ⟨_, _, rfl, .inr ⟨i, g + 1, hi, rfl, ?_, by rw [List.length_append, hl, hnew, Nat.add_mul]⟩, Keeps.set hi, by simp⟩
    rw [List.getElem?_set_self (List.getElem?_eq_some_iff.1 hst).1]
theorem keeps_take {st st' : Sto} (hk : Keeps st.length st st') : st'.take st.length = st := by
  apply List.ext_getElem?
  intro i
  rw [List.getElem?_take]
  split
  · rename_i hi; exact hk.at_ i hi
  · rename_i hi; rw [List.getElem?_eq_none (by omega)]
theorem gc_strip {x : AV} {st st' : Sto} (ho : (x.strip st.length).old st.length = true) (hk : Keeps st.length st st') : gc st (.ret x, st') = (.ret (x.strip st.length), st) := by
  unfold gc
  rw [if_pos ⟨ho, hk.len, fun i hi => .inl (hk.at_ i hi)⟩]
  simp only [Out.map, keeps_take hk]
theorem olds_icells (n : Nat) (l : List (Int × Int)) : olds n (icells l) = true := by
  induction l with
  | nil => rfl
  | cons x r ih => simp only [icells, olds, AV.old, ih, Bool.and_self]
theorem strips_icells (n : Nat) (l : List (Int × Int)) : strips n (icells l) = icells l := by
  induction l with
  | nil => rfl
  | cons x r ih => simp only [icells, strips, AV.strip, ih]
/-- A grown row of pairs, handed back. -/
theorem buf_ret {l : List (Int × Int)} {x : AV} {st st' : Sto} {b : Option Res} (hb : b = some ⟨.ret x, none, st'⟩) (h : BufT 2 st.length st' x (icells l) l.length) (hk : Keeps st.length st st') :
    ∃ v, (b.bind fun r => some (gc st (r.out, r.st))) = some (.ret v, st) ∧ InsV l v := by
  rw [hb]
  simp only [Option.bind_some]
  rcases h with ⟨rfl, h1, h2⟩ | ⟨i, g, hi, rfl, _, _⟩
  · obtain rfl := List.eq_nil_of_length_eq_zero h2
    exact ⟨.nils, by rw [gc_strip rfl hk]; rfl, .inl ⟨rfl, rfl⟩⟩
  · have hi2 : ¬ i < st.length := by omega
    have hs : (AV.is (icells l) l.length (.tip i g 2)).strip st.length = .is (icells l) l.length .no := by
      simp only [AV.strip, strips_icells, Tok.strip, hi2, if_false]
    refine ⟨.is (icells l) l.length .no, ?_, .inr ⟨[], .no, by simp⟩⟩
    rw [gc_strip (by rw [hs]; simp only [AV.old, olds_icells, Tok.old, Bool.and_self]) hk, hs]
theorem push2 {n len : Nat} {st : Sto} {t : AV} {pre : List (Int × Int)} {x m : Int} (h : BufT 2 n st t (icells pre) len) (hl : len = pre.length) (hn : n ≤ st.length) (hb : pre.length ≤ 100000000) :
    ∃ t' st', appL false false 2 16 t (.is [.int .i64 x, .int .i64 m] 1 .full) st = some (t', st') ∧ BufT 2 n st' t' (icells (pre ++ [(x, m)])) (pre ++ [(x, m)]).length ∧ Keeps n st st' ∧ st.length ≤ st'.length := by
  subst hl
  have ht : tailOf false 2 st (.is [.int .i64 x, .int .i64 m] 1 .full) = some ([.int .i64 x, .int .i64 m], 1) := rfl
  have hr : room 16 (pre.length + 1) = true := by simp [room]; omega
  obtain ⟨t', st', a, b, c, d⟩ := bufT_add h hn ht (by omega) rfl hr
  refine ⟨t', st', a, ?_, c, d⟩
  rw [icells_app, List.length_append]
  exact b

/-! ### Rows that are read -/
def isRowB : AV → Bool
  | .nils => true
  | .is _ _ _ => true
  | _ => false
theorem isRowB_cells {v : AV} (h : isRowB v = true) : v.cells = [v] := by cases v <;> first | rfl | cases h
def ElV (w n : Nat) (f : Nat → List AV → Prop) (v : AV) : Prop := lenL v = some n ∧ v.isCell = true ∧ isRowB v = true ∧ ∀ i, i < n → ∃ cs, ia w v (.int .i64 ((i : Nat) : Int)) = some (.ip cs) ∧ f i cs
def TxV (l : List ByteArray) (v : AV) : Prop := ElV 1 l.length (fun i cs => cs = [.str (l.getD i ⟨#[]⟩)]) v
def IntV (l : List Int) (v : AV) : Prop := ElV 1 l.length (fun i cs => cs = [.int .i64 (l.getD i 0)]) v
def CdV (l : List (List (Int × Int))) (v : AV) : Prop := ElV 1 l.length (fun i cs => ∃ w, cs = [w] ∧ InsV (l.getD i []) w) v

structure OpA where
  k : Int
  a : Int
  b : Int
  c : Int
  l : List Int
  deriving Inhabited
structure BlA where
  depth : Int
  ops : List OpA
  upd : List Int
  deriving Inhabited
structure PrA where
  texts : List ByteArray
  codes : List (List (Int × Int))
  statics : Fo
  blocks : List BlA

def oc (o : OpA) (lv : AV) : List AV := [.int .i64 o.k, .int .i64 o.a, .int .i64 o.b, .int .i64 o.c, lv]
def OpC (o : OpA) (cs : List AV) : Prop := ∃ lv, cs = oc o lv ∧ IntV o.l lv
def OpsV (l : List OpA) (v : AV) : Prop := ElV 5 l.length (fun i cs => OpC (l.getD i default) cs) v
def BlC (b : BlA) (cs : List AV) : Prop := ∃ ov uv, cs = [.int .i64 b.depth, ov, uv] ∧ OpsV b.ops ov ∧ IntV b.upd uv

/-- A pointer to cells: into a row, or to an object older than P. -/
def Ptr (P : Nat) (S : Sto) (q : AV) (cs : List AV) : Prop := q = .ip cs ∨ ∃ id g off all fz, id < P ∧ q = .mp id g off ∧ S[id]? = some (.cells g all fz) ∧ ∀ (k : Nat) (c : AV), cs[k]? = some c → all[off + k]? = some c
def BlV (P : Nat) (S : Sto) (l : List BlA) (v : AV) : Prop := lenL v = some l.length ∧ v.isCell = true ∧ v.cells = [v] ∧ ∀ i, i < l.length → ∃ q cs, ia 3 v (.int .i64 ((i : Nat) : Int)) = some q ∧ q.isCell = true ∧ q.cells = [q] ∧ Ptr P S q cs ∧ BlC (l.getD i default) cs

theorem Ptr.mono {P : Nat} {S S' : Sto} {q : AV} {cs : List AV} (h : Ptr P S q cs) (k : Keeps P S S') : Ptr P S' q cs := by
  rcases h with h | ⟨id, g, off, all, fz, h1, h2, h3, h4⟩
  · exact .inl h
  · exact .inr ⟨id, g, off, all, fz, h1, h2, by rw [k.at_ id h1]; exact h3, h4⟩
theorem BlV.mono {P : Nat} {S S' : Sto} {l : List BlA} {v : AV} (h : BlV P S l v) (k : Keeps P S S') : BlV P S' l v := by
  obtain ⟨h1, h2, h3, h4⟩ := h
  refine ⟨h1, h2, h3, fun i hi => ?_⟩
  obtain ⟨q, cs, a, b, c, d, e⟩ := h4 i hi
  exact ⟨q, cs, a, b, c, d.mono k, e⟩

/-! ### Fields -/
section
variable {R : Type}
theorem rdM {B g fz k : Nat} {S : Sto} {cs : List AV} {c : AV} (h : S[B]? = some (.cells g cs fz)) (hk : cs[k]? = some c) {F : AV → AV → Option R} : ((nilCk (.mp B g 0)).bind fun v1 => (fa k 1 v1).bind fun v2 => (ld false 1 S v2).bind fun v3 => F v2 v3) = F (.mp B g (0 + k)) c := by
  have hn : nilCk (.mp B g 0) = some (.mp B g 0) := rfl
  have hf : fa k 1 (.mp B g 0) = some (.mp B g (0 + k)) := rfl
  rw [hn, Option.bind_some, hf, Option.bind_some, m_get (n := 0 + k) h (by rw [Nat.zero_add]; exact hk), Option.bind_some]
theorem rdI {B g fz k j w : Nat} {S : Sto} {cs : List AV} {c : AV} (h : S[B]? = some (.cells g cs fz)) (hk : cs[j + k]? = some c) {F : AV → AV → Option R} : ((nilCk (.mp B g 0)).bind fun v0 => (fa j w v0).bind fun v1 => (fa k 1 v1).bind fun v2 => (ld false 1 S v2).bind fun v3 => F v2 v3) = F (.mp B g (0 + j + k)) c := by
  have hn : nilCk (.mp B g 0) = some (.mp B g 0) := rfl
  have hf : fa j w (.mp B g 0) = some (.mp B g (0 + j)) := rfl
  have hf2 : fa k 1 (.mp B g (0 + j)) = some (.mp B g (0 + j + k)) := rfl
  rw [hn, Option.bind_some, hf, Option.bind_some, hf2, Option.bind_some, m_get (n := 0 + j + k) h (by rw [Nat.zero_add]; exact hk), Option.bind_some]
theorem rdP {P k : Nat} {S : Sto} {q : AV} {cs : List AV} {c : AV} (h : Ptr P S q cs) (hk : cs[k]? = some c) {F : AV → Option R} : ((nilCk q).bind fun v1 => (fa k 1 v1).bind fun v2 => (ld false 1 S v2).bind fun v3 => F v3) = F c := by
  rcases h with rfl | ⟨id, g, off, all, fz, h1, rfl, h3, h4⟩
  · have hl := (List.getElem?_eq_some_iff.1 hk).1
    have h1 : k + 1 ≤ cs.length := hl
    have h2 : (cs.drop k).take 1 = [c] := by
      rw [List.drop_eq_getElem_cons hl]
      simp only [List.take_succ_cons, List.take_zero]
      rw [(List.getElem?_eq_some_iff.1 hk).2]
    have hn : nilCk (.ip cs) = some (.ip cs) := rfl
    simp only [hn, Option.bind_some, fa, h1, if_true, h2]
    rfl
  · have hn : nilCk (.mp id g off) = some (.mp id g off) := rfl
    have hf : fa k 1 (.mp id g off) = some (.mp id g (off + k)) := rfl
    rw [hn, Option.bind_some, hf, Option.bind_some, m_get h3 (h4 k c hk), Option.bind_some]
theorem rdO {k : Nat} {S : Sto} {cs : List AV} {c : AV} (hk : cs[k]? = some c) {F : AV → Option R} : ((nilCk (.ip cs)).bind fun v1 => (fa k 1 v1).bind fun v2 => (ld false 1 S v2).bind fun v3 => F v3) = F c := rdP (P := 0) (.inl rfl) hk
end

/-! ### Numbers -/
def numB (x n : Int) : Bool := decide (0 ≤ x) && decide (x < n)
theorem number_spec (x n : Int) (st : Sto) : CallR ap 25 [.int .i64 x, .int .i64 n] st = some (.ret (.bool (numB x n)), st) := by
  rw [verify_number.call]
  refine ret_keep ?_ rfl rfl (Keeps.refl _ _)
  rw [verify_number.b_eq]
  unfold numB
  by_cases h : 0 ≤ x <;> simp [h]

/-! ### Codes and blocks of an operation -/
def codesA (o : OpA) : List (Int × Int) :=
  if o.k = 2 ∨ o.k = 8 ∨ o.k = 11 then [(o.a, 0)] else if o.k = 5 then [(o.b, 0)] else if o.k = 9 then [(o.a, 0), (o.b, 2)] else if o.k = 10 then o.l.map fun x => (x, 0) else []
def someA (xs : List Int) : List (Int × Int) := (xs.filter fun x => decide (x ≠ 0)).map fun x => (x, 0)
def belongsA (o : OpA) : List (Int × Int) :=
  if o.k = 8 then someA [o.b, o.c] else if o.k = 9 then [(o.c, 2)] else if o.k = 10 then [(o.c, ((o.l.length : Nat) : Int))] else []

theorem pair1 (a m : Int) (st : Sto) : (litS false 1 2 (fillA (fun i => some (i * 2, 2)) [.int .i64 0, .int .i64 0] [(0, .agg [.int .i64 a, .int .i64 m])]) st) = some (.is [.int .i64 a, .int .i64 m] 1 .full, st) := rfl
theorem pair2 (a m b n : Int) (st : Sto) : (litS false 2 2 (fillA (fun i => some (i * 2, 2)) [.int .i64 0, .int .i64 0, .int .i64 0, .int .i64 0] [(0, .agg [.int .i64 a, .int .i64 m]), (1, .agg [.int .i64 b, .int .i64 n])]) st) = some (.is [.int .i64 a, .int .i64 m, .int .i64 b, .int .i64 n] 2 .full, st) := rfl
theorem agg2 (a m : Int) : (aggA (fillA (fun i => some (i * 1, 1)) [.int .i64 0, .int .i64 0] [(0, .int .i64 a), (1, (.int .i64 m))])) = some (.agg [.int .i64 a, .int .i64 m]) := rfl
theorem ins1 (a m : Int) : InsV [(a, m)] (.is [.int .i64 a, .int .i64 m] 1 .full) := .inr ⟨[], .full, rfl⟩
theorem ins2 (a m b n : Int) : InsV [(a, m), (b, n)] (.is [.int .i64 a, .int .i64 m, .int .i64 b, .int .i64 n] 2 .full) := .inr ⟨[], .full, rfl⟩

theorem codes_loop {l : List Int} {lv : AV} (hl : IntV l lv) (hs : l.length ≤ 1050000) (n : Nat) : ∀ (m i : Nat) (t : AV) (st : Sto), i + m = l.length → n ≤ st.length → BufT 2 n st t (icells ((l.take i).map fun x => (x, 0))) i →
    ∃ t' st', verify_codes.p10101111111010100 t lv ((l.length : Nat) : Int) ((i : Nat) : Int) st = some ⟨.ret t', none, st'⟩ ∧ BufT 2 n st' t' (icells (l.map fun x => (x, 0))) l.length ∧ Keeps n st st' := by
  intro m
  induction m with
  | zero =>
    intro i t st him hn ht
    have hi : i = l.length := by omega
    subst hi
    refine ⟨t, st, ?_, by rw [List.take_length] at ht; exact ht, Keeps.refl _ _⟩
    rw [verify_codes.p10101111111010100_eq]
    exact bf (dfalse (by omega))
  | succ m ih =>
    intro i t st him hn ht
    have hi : i < l.length := by omega
    obtain ⟨cs, hia, rfl⟩ := hl.2.2.2 i hi
    have w1 : IntKind.wrap .i64 (((i : Nat) : Int) + 1) = ((i + 1 : Nat) : Int) := w64 _ (by omega) (by omega)
    have htk : l.take (i + 1) = l.take i ++ [l.getD i 0] := by
      rw [List.take_add_one, List.getElem?_eq_getElem hi, List.getD_eq_getElem?_getD, List.getElem?_eq_getElem hi]; rfl
    have hlen : ((l.take i).map fun x => ((x, 0) : Int × Int)).length = i := by rw [List.length_map, List.length_take]; omega
    obtain ⟨t1, st1, a, b, c, d⟩ := push2 (x := l.getD i 0) (m := 0) ht hlen.symm hn (by rw [hlen]; omega)
    have hb2 : BufT 2 n st1 t1 (icells ((l.take (i + 1)).map fun x => (x, 0))) (i + 1) := by
      rw [htk, List.map_append]
      have : (((l.take i).map fun x => ((x, 0) : Int × Int)) ++ [(l.getD i 0, 0)]).length = i + 1 := by rw [List.length_append, hlen]; rfl
      rw [this] at b
      exact b
    obtain ⟨t', st', e1, e2, e3⟩ := ih (i + 1) t1 st1 (by omega) (by omega) hb2
    refine ⟨t', st', ?_, e2, c.trans e3⟩
    rw [verify_codes.p10101111111010100_eq]
    refine (bt (dtrue (by omega))).trans ?_
    refine (br hia).trans ?_
    refine (br (l1 _ _)).trans ?_
    refine (br (agg2 _ _)).trans ?_
    refine (br (pair1 _ _ _)).trans ?_
    refine (br a).trans ?_
    rw [w1]
    exact e1

theorem codes_spec {o : OpA} {lv : AV} (hl : IntV o.l lv) (hs : o.l.length ≤ 1050000) (st : Sto) : ∃ v, CallR ap 33 [.ip (oc o lv)] st = some (.ret v, st) ∧ InsV (codesA o) v := by
  have r0 : ∀ {F : AV → Option Res}, ((nilCk (.ip (oc o lv))).bind fun v1 => (fa 0 1 v1).bind fun v2 => (ld false 1 st v2).bind fun v3 => F v3) = F (.int .i64 o.k) := rdO rfl
  have r1 : ∀ {F : AV → Option Res}, ((nilCk (.ip (oc o lv))).bind fun v1 => (fa 1 1 v1).bind fun v2 => (ld false 1 st v2).bind fun v3 => F v3) = F (.int .i64 o.a) := rdO rfl
  have r2 : ∀ {F : AV → Option Res}, ((nilCk (.ip (oc o lv))).bind fun v1 => (fa 2 1 v1).bind fun v2 => (ld false 1 st v2).bind fun v3 => F v3) = F (.int .i64 o.b) := rdO rfl
  have r4 : ∀ {F : AV → Option Res}, ((nilCk (.ip (oc o lv))).bind fun v1 => (fa 4 1 v1).bind fun v2 => (ld false 1 st v2).bind fun v3 => F v3) = F lv := rdO rfl
  rw [verify_codes.call]
  have first : o.k = 2 ∨ o.k = 8 ∨ o.k = 11 → ∀ t, verify_codes.p10101 (.ip (oc o lv)) t true st = some ⟨.ret (.is [.int .i64 o.a, .int .i64 0] 1 .full), none, st⟩ := fun _ t => by
    rw [verify_codes.p10101_eq]
    exact (bt rfl).trans (r1.trans ((br (agg2 _ _)).trans (br (pair1 _ _ _))))
  by_cases h1 : o.k = 2 ∨ o.k = 8 ∨ o.k = 11
  · refine ⟨.is [.int .i64 o.a, .int .i64 0] 1 .full, ret_keep ?_ rfl rfl (Keeps.refl _ _), by unfold codesA; rw [if_pos h1]; exact ins1 _ _⟩
    rw [verify_codes.b_eq]
    refine r0.trans ?_
    refine (br (aI _)).trans ?_
    by_cases a : o.k = 2
    · refine (bt (dtrue a)).trans ?_
      rw [dtrue a]
      exact first h1 _
    · refine (bf (dfalse a)).trans ?_
      refine (br (aI _)).trans ?_
      by_cases b : o.k = 8
      · refine (bt (dtrue b)).trans ?_
        rw [dtrue b]
        exact first h1 _
      · refine (bf (dfalse b)).trans ?_
        refine (br (aI _)).trans ?_
        rw [dtrue (show o.k = 11 by omega)]
        exact first h1 _
  · have hb : verify_codes.b (.ip (oc o lv)) st = verify_codes.p10101 (.ip (oc o lv)) (.int .i64 o.k) false st := by
      rw [verify_codes.b_eq]
      refine r0.trans ?_
      refine (br (aI _)).trans ?_
      refine (bf (dfalse (by omega))).trans ?_
      refine (br (aI _)).trans ?_
      refine (bf (dfalse (by omega))).trans ?_
      refine (br (aI _)).trans ?_
      rw [dfalse (show ¬ o.k = 11 by omega)]
    rw [hb]
    unfold codesA
    rw [if_neg h1]
    by_cases h5 : o.k = 5
    · rw [if_pos h5]
      refine ⟨.is [.int .i64 o.b, .int .i64 0] 1 .full, ret_keep ?_ rfl rfl (Keeps.refl _ _), ins1 _ _⟩
      rw [verify_codes.p10101_eq]
      exact (bf rfl).trans ((br (aI _)).trans ((bt (dtrue h5)).trans (r2.trans ((br (agg2 _ _)).trans (br (pair1 _ _ _))))))
    · rw [if_neg h5]
      by_cases h9 : o.k = 9
      · rw [if_pos h9]
        refine ⟨.is [.int .i64 o.a, .int .i64 0, .int .i64 o.b, .int .i64 2] 2 .full, ret_keep ?_ rfl rfl (Keeps.refl _ _), ins2 _ _ _ _⟩
        rw [verify_codes.p10101_eq]
        exact (bf rfl).trans ((br (aI _)).trans ((bf (dfalse h5)).trans ((br (aI _)).trans ((bt (dtrue h9)).trans (r1.trans ((br (agg2 _ _)).trans (r2.trans ((br (agg2 _ _)).trans (br (pair2 _ _ _ _ _))))))))))
      · rw [if_neg h9]
        by_cases h10 : o.k = 10
        · rw [if_pos h10]
          obtain ⟨t', st', e1, e2, e3⟩ := codes_loop hl hs st.length o.l.length 0 .nils st (by omega) (Nat.le_refl _) (.inl ⟨rfl, rfl, rfl⟩)
          refine buf_ret (st' := st') ?_ (by rw [List.length_map]; exact e2) e3
          rw [verify_codes.p10101_eq]
          exact (bf rfl).trans ((br (aI _)).trans ((bf (dfalse h5)).trans ((br (aI _)).trans ((bf (dfalse h9)).trans ((br (aI _)).trans ((bt (dtrue h10)).trans (r4.trans ((br hl.1).trans e1))))))))
        · rw [if_neg h10]
          refine ⟨.nils, ret_keep ?_ rfl rfl (Keeps.refl _ _), .inl ⟨rfl, rfl⟩⟩
          rw [verify_codes.p10101_eq]
          exact (bf rfl).trans ((br (aI _)).trans ((bf (dfalse h5)).trans ((br (aI _)).trans ((bf (dfalse h9)).trans ((br (aI _)).trans (bf (dfalse h10)))))))

theorem belongs_step {x : Int} {row : AV} {len : Int} {n i : Nat} {t : AV} {st : Sto} {pre : List (Int × Int)} (hia : ia 1 row (.int .i64 ((i : Nat) : Int)) = some (.ip [.int .i64 x])) (hi : ((i : Nat) : Int) < len) (hn : n ≤ st.length) (hp : pre.length ≤ 10) (hib : i ≤ 10) (ht : BufT 2 n st t (icells pre) pre.length) :
    ∃ t' st', verify_belongs.p10101010100 t row len ((i : Nat) : Int) st = verify_belongs.p10101010100 t' row len ((i + 1 : Nat) : Int) st' ∧ BufT 2 n st' t' (icells (pre ++ someA [x])) (pre ++ someA [x]).length ∧ Keeps n st st' ∧ st.length ≤ st'.length := by
  have w1 : IntKind.wrap .i64 (((i : Nat) : Int) + 1) = ((i + 1 : Nat) : Int) := w64 _ (by omega) (by omega)
  by_cases hx : x = 0
  · refine ⟨t, st, ?_, by simpa [someA, hx] using ht, Keeps.refl _ _, Nat.le_refl _⟩
    rw [verify_belongs.p10101010100_eq]
    refine (bt (dtrue hi)).trans ?_
    refine (br hia).trans ?_
    refine (br (l1 _ _)).trans ?_
    refine (br (aI _)).trans ?_
    refine (bf (by simp [hx])).trans ?_
    rw [verify_belongs.p10101010100111_eq, w1]
  · obtain ⟨t', st', a, b, c, d⟩ := push2 (x := x) (m := 0) ht rfl hn (by omega)
    refine ⟨t', st', ?_, by simpa [someA, hx] using b, c, d⟩
    rw [verify_belongs.p10101010100_eq]
    refine (bt (dtrue hi)).trans ?_
    refine (br hia).trans ?_
    refine (br (l1 _ _)).trans ?_
    refine (br (aI _)).trans ?_
    refine (bt (by simp [hx])).trans ?_
    refine (br (agg2 _ _)).trans ?_
    refine (br (pair1 _ _ _)).trans ?_
    refine (br a).trans ?_
    rw [verify_belongs.p10101010100111_eq, w1]

theorem belongs_spec {o : OpA} {lv : AV} (hl : IntV o.l lv) (st : Sto) : ∃ v, CallR ap 50 [.ip (oc o lv)] st = some (.ret v, st) ∧ InsV (belongsA o) v := by
  have r0 : ∀ {F : AV → Option Res}, ((nilCk (.ip (oc o lv))).bind fun v1 => (fa 0 1 v1).bind fun v2 => (ld false 1 st v2).bind fun v3 => F v3) = F (.int .i64 o.k) := rdO rfl
  have r2 : ∀ {F : AV → Option Res}, ((nilCk (.ip (oc o lv))).bind fun v1 => (fa 2 1 v1).bind fun v2 => (ld false 1 st v2).bind fun v3 => F v3) = F (.int .i64 o.b) := rdO rfl
  have r3 : ∀ {F : AV → Option Res}, ((nilCk (.ip (oc o lv))).bind fun v1 => (fa 3 1 v1).bind fun v2 => (ld false 1 st v2).bind fun v3 => F v3) = F (.int .i64 o.c) := rdO rfl
  have r4 : ∀ {F : AV → Option Res}, ((nilCk (.ip (oc o lv))).bind fun v1 => (fa 4 1 v1).bind fun v2 => (ld false 1 st v2).bind fun v3 => F v3) = F lv := rdO rfl
  rw [verify_belongs.call]
  unfold belongsA
  by_cases h8 : o.k = 8
  · rw [if_pos h8]
    have hlit : (litS false 2 1 (fillA (fun i => some (i * 1, 1)) [.int .i64 0, .int .i64 0] [(0, .int .i64 o.b), (1, .int .i64 o.c)]) st) = some (.is [.int .i64 o.b, .int .i64 o.c] 2 .full, st) := rfl
    obtain ⟨t1, s1, a1, b1, c1, d1⟩ := belongs_step (x := o.b) (row := .is [.int .i64 o.b, .int .i64 o.c] 2 .full) (len := ((2 : Nat) : Int)) (n := st.length) (i := 0) (t := .nils) (st := st) (pre := []) rfl (by omega) (Nat.le_refl _) (by simp) (by omega) (.inl ⟨rfl, rfl, rfl⟩)
    obtain ⟨t2, s2, a2, b2, c2, d2⟩ := belongs_step (x := o.c) (row := .is [.int .i64 o.b, .int .i64 o.c] 2 .full) (len := ((2 : Nat) : Int)) (n := st.length) (i := 1) (t := t1) (st := s1) (pre := [] ++ someA [o.b]) rfl (by omega) d1 (by simp only [someA, List.nil_append, List.length_map]; exact Nat.le_trans (List.length_filter_le _ _) (by simp)) (by omega) b1
    have he : [] ++ someA [o.b] ++ someA [o.c] = someA [o.b, o.c] := by
      unfold someA
      rw [List.nil_append, ← List.map_append, ← List.filter_append]
      rfl
    rw [he] at b2
    refine buf_ret (st' := s2) (x := t2) ?_ b2 (c1.trans c2)
    rw [verify_belongs.b_eq]
    refine r0.trans ?_
    refine (br (aI _)).trans ?_
    refine (bt (dtrue h8)).trans ?_
    refine r2.trans ?_
    refine r3.trans ?_
    refine (br hlit).trans ?_
    refine (br (show lenL (.is [.int .i64 o.b, .int .i64 o.c] 2 .full) = some 2 from rfl)).trans ?_
    refine a1.trans (a2.trans ?_)
    rw [verify_belongs.p10101010100_eq]
    exact bf (dfalse (by omega))
  · rw [if_neg h8]
    by_cases h9 : o.k = 9
    · rw [if_pos h9]
      refine ⟨.is [.int .i64 o.c, .int .i64 2] 1 .full, ret_keep ?_ rfl rfl (Keeps.refl _ _), ins1 _ _⟩
      rw [verify_belongs.b_eq]
      exact r0.trans ((br (aI _)).trans ((bf (dfalse h8)).trans ((br (aI _)).trans ((bt (dtrue h9)).trans (r3.trans ((br (agg2 _ _)).trans (br (pair1 _ _ _))))))))
    · rw [if_neg h9]
      by_cases h10 : o.k = 10
      · rw [if_pos h10]
        refine ⟨.is [.int .i64 o.c, .int .i64 ((o.l.length : Nat) : Int)] 1 .full, ret_keep ?_ rfl rfl (Keeps.refl _ _), ins1 _ _⟩
        rw [verify_belongs.b_eq]
        exact r0.trans ((br (aI _)).trans ((bf (dfalse h8)).trans ((br (aI _)).trans ((bf (dfalse h9)).trans ((br (aI _)).trans ((bt (dtrue h10)).trans (r3.trans (r4.trans ((br hl.1).trans ((br (agg2 _ _)).trans (br (pair1 _ _ _))))))))))))
      · rw [if_neg h10]
        refine ⟨.nils, ret_keep ?_ rfl rfl (Keeps.refl _ _), .inl ⟨rfl, rfl⟩⟩
        rw [verify_belongs.b_eq]
        exact r0.trans ((br (aI _)).trans ((bf (dfalse h8)).trans ((br (aI _)).trans ((bf (dfalse h9)).trans ((br (aI _)).trans (bf (dfalse h10)))))))

/-! ## Programs: the state in memory; an operation's fields. -/
structure Small (p : PrA) : Prop where
  t : p.texts.length ≤ 1050000
  ts : ∀ i, (p.texts.getD i ⟨#[]⟩).size ≤ 1050000
  c : p.codes.length ≤ 1050000
  cs : ∀ i, (p.codes.getD i []).length ≤ 1050000
  s : p.statics.sz ≤ 1050000
  b : p.blocks.length ≤ 1050000
  o : ∀ i, (p.blocks.getD i default).ops.length ≤ 1049000 ∧ (p.blocks.getD i default).upd.length ≤ 1050000
  l : ∀ i j, ((p.blocks.getD i default).ops.getD j default).l.length ≤ 1050000

structure Ar where
  owned : Bool
  loop : Bool
  depth : Int
  nest : Int
  loops : Int
  deriving Inhabited
def arc (a : Ar) : List AV := [.bool a.owned, .bool a.loop, .int .i64 a.depth, .int .i64 a.nest, .int .i64 a.loops]
def arcells : List Ar → List AV
  | [] => []
  | a :: r => arc a ++ arcells r
structure Bk where
  num : Int
  bp : AV
  inn : Ar
  depth : Int
  opened : Int
  name : ByteArray
  first : Int
def bcells (V O g : Nat) (lets : List Int) (k : Bk) : List AV :=
  [.mp V 0 0, .int .i64 k.num, k.bp, .bool k.inn.owned, .bool k.inn.loop, .int .i64 k.inn.depth, .int .i64 k.inn.nest, .int .i64 k.inn.loops, .int .i64 k.depth, .ms O g 0 lets.length 1, .int .i64 k.opened, .str k.name, .int .i64 k.first]

/-- Forests whose row is as long as it may be again. -/
def FoM (ts : Fo) (v : AV) : Prop := (ts.len = 0 ∧ v = .nils) ∨ ∃ row tok, v = .is row ts.len tok ∧ row.length = tok.most ts.len * 4 ∧ Row ts row
theorem FoM.fov {ts : Fo} {v : AV} (h : FoM ts v) : FoV ts v := by
  rcases h with h | ⟨row, tok, h1, _, h2⟩
  · exact .inl h
  · exact .inr ⟨row, tok, h1, h2⟩

/-- The program in a variable. -/
structure Prg (p : PrA) (P : Nat) (tx cd sx bl : AV) (S : Sto) : Prop where
  hP : S[P]? = some (.cells 0 [tx, cd, sx, bl] 0)
  hT : TxV p.texts tx
  hC : CdV p.codes cd
  hS : FoM p.statics sx
  hB : BlV P S p.blocks bl
theorem Prg.mono {p : PrA} {P : Nat} {tx cd sx bl : AV} {S S' : Sto} (h : Prg p P tx cd sx bl S) (k : Keeps (P + 1) S S') : Prg p P tx cd sx bl S' :=
  ⟨by rw [k.at_ P (by omega)]; exact h.hP, h.hT, h.hC, h.hS, h.hB.mono ⟨k.len, fun i hi => k.at_ i (by omega)⟩⟩

/-- A verifier and a block that is looked at, in memory. -/
structure Now (P V A O B : Nat) (k : Bk) (g : Nat) (lets : List Int) (ar : List Ar) (S : Sto) : Prop where
  hV : S[V]? = some (.cells 0 [.mp P 0 0, .ms A 0 0 ar.length 5] 0)
  hA : S[A]? = some (.cells 0 (arcells ar) 0)
  hB : S[B]? = some (.cells 0 (bcells V O g lets k) 0)
  hO : ∃ junk, S[O]? = some (.cells g (hcellsI lets ++ junk) 0)
  n1 : P < V
  n2 : V < A
  n3 : A < O
  n4 : O < B
theorem Now.mono {P V A O B : Nat} {k : Bk} {g : Nat} {lets : List Int} {ar : List Ar} {S S' : Sto} (h : Now P V A O B k g lets ar S) (q : ∀ (j : Nat) (o : Ob), S[j]? = some o → S'[j]? = some o) : Now P V A O B k g lets ar S' := by
  obtain ⟨junk, hO⟩ := h.hO
  exact ⟨q _ _ h.hV, q _ _ h.hA, q _ _ h.hB, ⟨junk, q _ _ hO⟩, h.n1, h.n2, h.n3, h.n4⟩

/-! ### Texts -/
def textB (texts : List ByteArray) (x : Int) (tag : Bool) : Bool := numB x ((texts.length : Nat) : Int) && (!tag || wordB (texts.getD x.toNat ⟨#[]⟩) 45)
section
variable {p : PrA} {P V A O B : Nat} {tx cd sx bl : AV} {S : Sto} {k : Bk} {g : Nat} {lets : List Int} {ar : List Ar}

theorem text_spec (H : Prg p P tx cd sx bl S) (hs : Small p) {q : AV} (hV : S[V]? = some (.cells 0 [.mp P 0 0, q] 0)) (x : Int) (tag : Bool) : CallR ap 48 [.mp V 0 0, .int .i64 x, .bool tag] S = some (.ret (.bool (textB p.texts x tag)), S) := by
  rw [verify_verifier_text.call]
  refine ret_keep ?_ rfl rfl (Keeps.refl _ _)
  rw [verify_verifier_text.b_eq]
  refine (rdM hV rfl).trans ?_
  refine (rdM H.hP rfl).trans ?_
  refine (br H.hT.1).trans ?_
  refine (cr (number_spec _ _ S)).trans ?_
  refine (br (gB _)).trans ?_
  refine gs.trans ?_
  unfold textB
  cases hn : numB x ((p.texts.length : Nat) : Int) with
  | false => exact bf rfl
  | true =>
    refine (bt rfl).trans ?_
    cases tag with
    | false => exact bt rfl
    | true =>
      refine (bf rfl).trans ?_
      have hx : 0 ≤ x ∧ x < ((p.texts.length : Nat) : Int) := by simpa [numB] using hn
      obtain ⟨i, rfl⟩ : ∃ i : Nat, x = (i : Int) := ⟨x.toNat, by omega⟩
      obtain ⟨cs, hia, rfl⟩ := H.hT.2.2.2 i (by omega)
      refine (rdM hV rfl).trans ?_
      refine (rdM H.hP rfl).trans ?_
      refine (br hia).trans ?_
      refine (br (l1 _ _)).trans ?_
      refine (cr (tag_spec _ (by have := hs.ts i; omega) S)).trans ?_
      refine (br (aB _)).trans ?_
      simp

/-! ### Fields that nobody asks -/
def noneA (xs : List Int) (o : OpA) : Bool := xs.all (fun x => decide (x = 0)) && (decide (o.k = 10) || decide (o.l.length = 0))

theorem rK {o : OpA} {lv : AV} {K j : Nat} {c : AV} (hK : S[K]? = some (.cells 0 [.ip (oc o lv)] 0)) (hj : (oc o lv)[j]? = some c) {F : AV → Option Res} : ((ld false 1 S (.mp K 0 0)).bind fun v => (nilCk v).bind fun v1 => (fa j 1 v1).bind fun v2 => (ld false 1 S v2).bind fun v3 => F v3) = F c := by
  rw [m_get (n := 0) hK rfl, Option.bind_some]
  exact rdO hj

theorem none_loop {xs : List Int} {v : AV} (hv : IntV xs v) {o : OpA} {lv : AV} (hl : IntV o.l lv) {K : Nat} (hK : S[K]? = some (.cells 0 [.ip (oc o lv)] 0)) (hx : xs.length ≤ 100) : ∀ (m i : Nat), i + m = xs.length → verify_block_form_1.p10100 (.mp K 0 0) v ((xs.length : Nat) : Int) ((i : Nat) : Int) S = some ⟨.ret (.bool (noneA (xs.drop i) o)), none, S⟩ := by
  intro m
  induction m with
  | zero =>
    intro i him
    have hi : i = xs.length := by omega
    subst hi
    rw [verify_block_form_1.p10100_eq, List.drop_length]
    refine (bf (dfalse (by omega))).trans ?_
    refine (rK hK (j := 0) rfl).trans ?_
    refine (br (aI _)).trans ?_
    unfold noneA
    by_cases h10 : o.k = 10
    · refine (bt (dtrue h10)).trans ?_
      simp [h10]
    · refine (bf (dfalse h10)).trans ?_
      refine (rK hK (j := 4) rfl).trans ?_
      refine (br hl.1).trans ?_
      have : (((o.l.length : Nat) : Int) = 0) ↔ o.l.length = 0 := by omega
      simp [h10]
  | succ m ih =>
    intro i him
    have hi : i < xs.length := by omega
    obtain ⟨cs, hia, rfl⟩ := hv.2.2.2 i hi
    have w1 : IntKind.wrap .i64 (((i : Nat) : Int) + 1) = ((i + 1 : Nat) : Int) := w64 _ (by omega) (by omega)
    have hd : xs.drop i = xs.getD i 0 :: xs.drop (i + 1) := by
      rw [List.drop_eq_getElem_cons hi, List.getD_eq_getElem?_getD, List.getElem?_eq_getElem hi]; rfl
    rw [verify_block_form_1.p10100_eq, hd]
    refine (bt (dtrue (by omega))).trans ?_
    refine (br hia).trans ?_
    refine (br (l1 _ _)).trans ?_
    refine (br (aI _)).trans ?_
    by_cases h0 : xs.getD i 0 = 0
    · refine (bf (by rw [h0]; rfl)).trans ?_
      rw [w1, ih (i + 1) (by omega)]
      simp only [noneA, List.all_cons, h0, decide_true, Bool.true_and]
    · refine (bt (by simp only [h0, decide_false, Bool.not_false])).trans ?_
      simp only [noneA, List.all_cons, h0, decide_false, Bool.false_and]
theorem none_spec {xs : List Int} {v : AV} (hv : IntV xs v) {o : OpA} {lv : AV} (hl : IntV o.l lv) {K : Nat} (hK : S[K]? = some (.cells 0 [.ip (oc o lv)] 0)) (hx : xs.length ≤ 100) : invokeA ap (CallR ap) (.fn (.func 47) [] [.mp K 0 0]) [v] S = some (.ret (.bool (noneA xs o)), S) := by
  show CallR ap 47 [v, .mp K 0 0] S = _
  rw [verify_block_form_1.call]
  refine ret_keep ?_ rfl rfl (Keeps.refl _ _)
  rw [verify_block_form_1.b_eq]
  refine (br hv.1).trans ?_
  exact none_loop hv hl hK hx xs.length 0 (by omega)

theorem int0 : IntV [] .nils := ⟨rfl, rfl, rfl, fun i hi => by simp at hi⟩
theorem int1 (a : Int) : IntV [a] (.is [.int .i64 a] 1 .full) := ⟨rfl, rfl, rfl, fun i hi => by
  obtain rfl : i = 0 := by simpa using hi
  exact ⟨_, rfl, rfl⟩⟩
theorem int2 (a b : Int) : IntV [a, b] (.is [.int .i64 a, .int .i64 b] 2 .full) := ⟨rfl, rfl, rfl, fun i hi => by
  have : i = 0 ∨ i = 1 := by simp at hi; omega
  rcases this with rfl | rfl
  · exact ⟨_, rfl, rfl⟩
  · exact ⟨_, rfl, rfl⟩⟩
theorem int3 (a b c : Int) : IntV [a, b, c] (.is [.int .i64 a, .int .i64 b, .int .i64 c] 3 .full) := ⟨rfl, rfl, rfl, fun i hi => by
  have : i = 0 ∨ i = 1 ∨ i = 2 := by simp at hi; omega
  rcases this with rfl | rfl | rfl
  · exact ⟨_, rfl, rfl⟩
  · exact ⟨_, rfl, rfl⟩
  · exact ⟨_, rfl, rfl⟩⟩

/-! ### form -/
def kindA (p : PrA) (o : OpA) : Bool :=
  if o.k = 1 then noneA [o.b, o.c] o && textB p.texts o.a false
  else if o.k = 3 then noneA [o.b, o.c] o && textB p.texts o.a true
  else if o.k = 4 then noneA [o.c] o && (textB p.texts o.a true && textB p.texts o.b false)
  else if o.k = 5 then noneA [o.c] o && textB p.texts o.a true
  else if o.k = 6 then noneA [o.a, o.b, o.c] o
  else if o.k = 7 then noneA [o.b, o.c] o && numB o.a ((p.statics.len : Nat) : Int)
  else if o.k = 12 then noneA [o.b, o.c] o && decide (1 ≤ o.a)
  else if o.k = 2 ∨ o.k = 11 then noneA [o.b, o.c] o
  else if o.k = 8 ∨ o.k = 9 then noneA [] o
  else if o.k = 10 then noneA [o.a, o.b] o
  else false
def formA (p : PrA) (i : Nat) (o : OpA) : Bool := !(decide (8192 ≤ i) || decide (64 < o.l.length)) && ((codesA o).all (fun c => numB c.1 ((p.codes.length : Nat) : Int)) && kindA p o)

theorem kind_spec (H : Prg p P tx cd sx bl S) (hs : Small p) (hN : Now P V A O B k g lets ar S) {o : OpA} {lv : AV} (hl : IntV o.l lv) {K : Nat} (hK : S[K]? = some (.cells 0 [.ip (oc o lv)] 0)) (t22 : AV) (n : Int) :
    verify_block_form.p1110100 (.mp B 0 0) K (.fn (.func 47) [] [.mp K 0 0]) t22 n n S = some ⟨.ret (.bool (kindA p o)), none, S⟩ := by
  have lit1 : ∀ a : Int, (litS false 1 1 (fillA (fun i => some (i * 1, 1)) [.int .i64 0] [(0, .int .i64 a)]) S) = some (.is [.int .i64 a] 1 .full, S) := fun _ => rfl
  have lit2 : ∀ a b : Int, (litS false 2 1 (fillA (fun i => some (i * 1, 1)) [.int .i64 0, .int .i64 0] [(0, .int .i64 a), (1, .int .i64 b)]) S) = some (.is [.int .i64 a, .int .i64 b] 2 .full, S) := fun _ _ => rfl
  have lit3 : ∀ a b c : Int, (litS false 3 1 (fillA (fun i => some (i * 1, 1)) [.int .i64 0, .int .i64 0, .int .i64 0] [(0, .int .i64 a), (1, .int .i64 b), (2, .int .i64 c)]) S) = some (.is [.int .i64 a, .int .i64 b, .int .i64 c] 3 .full, S) := fun _ _ _ => rfl
  have n0 := none_spec int0 hl hK (by simp)
  have n1 := fun a => none_spec (int1 a) hl hK (by simp)
  have n2 := fun a b => none_spec (int2 a b) hl hK (by simp)
  have n3 := fun a b c => none_spec (int3 a b c) hl hK (by simp)
  have tx := fun x t => text_spec H hs hN.hV x t
  rw [verify_block_form.p1110100_eq]
  refine (bf (dfalse (by omega))).trans ?_
  refine (rK hK (j := 0) rfl).trans ?_
  refine (br (aI _)).trans ?_
  unfold kindA
  by_cases h1 : o.k = 1
  · rw [if_pos h1]
    refine (bt (dtrue h1)).trans ?_
    refine (rK hK (j := 2) rfl).trans ?_
    refine (rK hK (j := 3) rfl).trans ?_
    refine (br (lit2 _ _)).trans ?_
    refine (cr (n2 _ _)).trans ?_
    refine (br (gB _)).trans ?_
    refine gs.trans ?_
    cases noneA [o.b, o.c] o with
    | false => exact bf rfl
    | true =>
      refine (bt rfl).trans ?_
      refine (rdM hN.hB rfl).trans ?_
      refine (rK hK (j := 1) rfl).trans ?_
      refine (cr (tx _ _)).trans ?_
      refine (it rfl).trans ?_
      exact br (aB _)
  rw [if_neg h1]
  refine (bf (dfalse h1)).trans ?_
  refine (br (aI _)).trans ?_
  by_cases h3 : o.k = 3
  · rw [if_pos h3]
    refine (bt (dtrue h3)).trans ?_
    refine (rK hK (j := 2) rfl).trans ?_
    refine (rK hK (j := 3) rfl).trans ?_
    refine (br (lit2 _ _)).trans ?_
    refine (cr (n2 _ _)).trans ?_
    refine (br (gB _)).trans ?_
    refine gs.trans ?_
    cases noneA [o.b, o.c] o with
    | false => exact bf rfl
    | true =>
      refine (bt rfl).trans ?_
      refine (rdM hN.hB rfl).trans ?_
      refine (rK hK (j := 1) rfl).trans ?_
      refine (cr (tx _ _)).trans ?_
      refine (it rfl).trans ?_
      exact br (aB _)
  rw [if_neg h3]
  refine (bf (dfalse h3)).trans ?_
  refine (br (aI _)).trans ?_
  by_cases h4 : o.k = 4
  · rw [if_pos h4]
    refine (bt (dtrue h4)).trans ?_
    refine (rK hK (j := 3) rfl).trans ?_
    refine (br (lit1 _)).trans ?_
    refine (cr (n1 _)).trans ?_
    refine (br (gB _)).trans ?_
    refine gs.trans ?_
    cases noneA [o.c] o with
    | false => exact bf rfl
    | true =>
      refine (bt rfl).trans ?_
      refine (rdM hN.hB rfl).trans ?_
      refine (rK hK (j := 1) rfl).trans ?_
      refine (cr (tx _ _)).trans ?_
      refine (it rfl).trans ?_
      refine (br (aB _)).trans ?_
      cases textB p.texts o.a true with
      | false => exact bf rfl
      | true =>
        refine (bt rfl).trans ?_
        refine (rdM hN.hB rfl).trans ?_
        refine (rK hK (j := 2) rfl).trans ?_
        refine (cr (tx _ _)).trans ?_
        refine (it rfl).trans ?_
        exact br (aB _)
  rw [if_neg h4]
  refine (bf (dfalse h4)).trans ?_
  refine (br (aI _)).trans ?_
  by_cases h5 : o.k = 5
  · rw [if_pos h5]
    refine (bt (dtrue h5)).trans ?_
    refine (rK hK (j := 3) rfl).trans ?_
    refine (br (lit1 _)).trans ?_
    refine (cr (n1 _)).trans ?_
    refine (br (gB _)).trans ?_
    refine gs.trans ?_
    cases noneA [o.c] o with
    | false => exact bf rfl
    | true =>
      refine (bt rfl).trans ?_
      refine (rdM hN.hB rfl).trans ?_
      refine (rK hK (j := 1) rfl).trans ?_
      refine (cr (tx _ _)).trans ?_
      refine (it rfl).trans ?_
      exact br (aB _)
  rw [if_neg h5]
  refine (bf (dfalse h5)).trans ?_
  refine (br (aI _)).trans ?_
  by_cases h6 : o.k = 6
  · rw [if_pos h6]
    refine (bt (dtrue h6)).trans ?_
    refine (rK hK (j := 1) rfl).trans ?_
    refine (rK hK (j := 2) rfl).trans ?_
    refine (rK hK (j := 3) rfl).trans ?_
    refine (br (lit3 _ _ _)).trans ?_
    exact cr (n3 _ _ _)
  rw [if_neg h6]
  refine (bf (dfalse h6)).trans ?_
  refine (br (aI _)).trans ?_
  by_cases h7 : o.k = 7
  · rw [if_pos h7]
    refine (bt (dtrue h7)).trans ?_
    refine (rK hK (j := 2) rfl).trans ?_
    refine (rK hK (j := 3) rfl).trans ?_
    refine (br (lit2 _ _)).trans ?_
    refine (cr (n2 _ _)).trans ?_
    refine (br (gB _)).trans ?_
    refine gs.trans ?_
    cases noneA [o.b, o.c] o with
    | false => exact bf rfl
    | true =>
      refine (bt rfl).trans ?_
      refine (rK hK (j := 1) rfl).trans ?_
      refine (rdM hN.hB rfl).trans ?_
      refine (rdM hN.hV rfl).trans ?_
      refine (rdM H.hP rfl).trans ?_
      refine (br H.hS.fov.len).trans ?_
      refine (cr (number_spec _ _ S)).trans ?_
      refine (it rfl).trans ?_
      exact br (aB _)
  rw [if_neg h7]
  refine (bf (dfalse h7)).trans ?_
  refine (br (aI _)).trans ?_
  by_cases h12 : o.k = 12
  · rw [if_pos h12]
    refine (bt (dtrue h12)).trans ?_
    refine (rK hK (j := 2) rfl).trans ?_
    refine (rK hK (j := 3) rfl).trans ?_
    refine (br (lit2 _ _)).trans ?_
    refine (cr (n2 _ _)).trans ?_
    refine (br (gB _)).trans ?_
    refine gs.trans ?_
    cases noneA [o.b, o.c] o with
    | false => exact bf rfl
    | true =>
      refine (bt rfl).trans ?_
      refine (rK hK (j := 1) rfl).trans ?_
      exact br (aI _)
  rw [if_neg h12]
  refine (bf (dfalse h12)).trans ?_
  refine (br (aI _)).trans ?_
  have last : verify_block_form.p111101011111111111111111 K (.fn (.func 47) [] [.mp K 0 0]) (.int .i64 o.k) (decide (o.k = 8 ∨ o.k = 9)) S = some ⟨.ret (.bool (if o.k = 8 ∨ o.k = 9 then noneA [] o else if o.k = 10 then noneA [o.a, o.b] o else false)), none, S⟩ := by
    rw [verify_block_form.p111101011111111111111111_eq]
    by_cases h8 : o.k = 8 ∨ o.k = 9
    · rw [if_pos h8]
      refine (bt (dtrue h8)).trans ?_
      exact cr n0
    · rw [if_neg h8]
      refine (bf (dfalse h8)).trans ?_
      refine (br (aI _)).trans ?_
      by_cases h10 : o.k = 10
      · rw [if_pos h10]
        refine (bt (dtrue h10)).trans ?_
        refine (rK hK (j := 1) rfl).trans ?_
        refine (rK hK (j := 2) rfl).trans ?_
        refine (br (lit2 _ _)).trans ?_
        exact cr (n2 _ _)
      · rw [if_neg h10]
        exact bf (dfalse h10)
  have mid : verify_block_form.p1111010111111111111111 K (.fn (.func 47) [] [.mp K 0 0]) (.int .i64 o.k) (decide (o.k = 2 ∨ o.k = 11)) S = some ⟨.ret (.bool (if o.k = 2 ∨ o.k = 11 then noneA [o.b, o.c] o else if o.k = 8 ∨ o.k = 9 then noneA [] o else if o.k = 10 then noneA [o.a, o.b] o else false)), none, S⟩ := by
    rw [verify_block_form.p1111010111111111111111_eq]
    by_cases h2 : o.k = 2 ∨ o.k = 11
    · rw [if_pos h2]
      refine (bt (dtrue h2)).trans ?_
      refine (rK hK (j := 2) rfl).trans ?_
      refine (rK hK (j := 3) rfl).trans ?_
      refine (br (lit2 _ _)).trans ?_
      exact cr (n2 _ _)
    · rw [if_neg h2]
      refine (bf (dfalse h2)).trans ?_
      refine (br (aI _)).trans ?_
      by_cases h8 : o.k = 8
      · refine (bt (dtrue h8)).trans ?_
        rw [show decide (o.k = 8) = decide (o.k = 8 ∨ o.k = 9) by simp [h8]]
        exact last
      · refine (bf (dfalse h8)).trans ?_
        refine (br (aI _)).trans ?_
        rw [show decide (o.k = 9) = decide (o.k = 8 ∨ o.k = 9) by simp [h8]]
        exact last
  by_cases h2 : o.k = 2
  · refine (bt (dtrue h2)).trans ?_
    rw [show decide (o.k = 2) = decide (o.k = 2 ∨ o.k = 11) by simp [h2]]
    exact mid
  · refine (bf (dfalse h2)).trans ?_
    refine (br (aI _)).trans ?_
    rw [show decide (o.k = 11) = decide (o.k = 2 ∨ o.k = 11) by simp [h2]]
    exact mid

theorem pair_new (x m : Int) (S : Sto) : sto 2 (S ++ [Ob.cells 0 [.int .i64 0, .int .i64 0] 0]) (.mp S.length 0 0) (.agg [.int .i64 x, .int .i64 m]) = some (S ++ [Ob.cells 0 [.int .i64 x, .int .i64 m] 0]) := m_new (cs := [.int .i64 0, .int .i64 0]) (cs' := [.int .i64 x, .int .i64 m]) rfl rfl rfl
theorem pair_at0 (n : Nat) : iaArr 2 1 (.mp n 0 0) (.int .i64 0) = some (.mp n 0 0) := rfl
theorem pair_at1 (n : Nat) : iaArr 2 1 (.mp n 0 0) (.int .i64 1) = some (.mp n 0 1) := rfl
theorem pair_get0 (x m : Int) (S : Sto) : ld false 1 (S ++ [Ob.cells 0 [.int .i64 x, .int .i64 m] 0]) (.mp S.length 0 0) = some (.int .i64 x) := m_get (n := 0) (g := 0) (fz := 0) (cs := [.int .i64 x, .int .i64 m]) (by simp) rfl
theorem pair_get1 (x m : Int) (S : Sto) : ld false 1 (S ++ [Ob.cells 0 [.int .i64 x, .int .i64 m] 0]) (.mp S.length 0 1) = some (.int .i64 m) := m_get (n := 1) (g := 0) (fz := 0) (cs := [.int .i64 x, .int .i64 m]) (by simp) rfl
theorem ap_get {S l : Sto} : ∀ (j : Nat) (o : Ob), S[j]? = some o → (S ++ l)[j]? = some o := fun _ _ h => app_get h
theorem drop_pair {l : List (Int × Int)} {i : Nat} (hi : i < l.length) : ∃ x, l[i]? = some x ∧ l.drop i = x :: l.drop (i + 1) := ⟨l[i], List.getElem?_eq_getElem hi, List.drop_eq_getElem_cons hi⟩

theorem form_loop (hs : Small p) {o : OpA} {lv : AV} (hl : IntV o.l lv) {K n0 : Nat} {cv : AV} (hc : InsV (codesA o) cv) (hcl : (codesA o).length ≤ 1050000) : ∀ (m i : Nat) (S : Sto), i + m = (codesA o).length → n0 ≤ S.length → P + 1 ≤ S.length → Prg p P tx cd sx bl S → Now P V A O B k g lets ar S → S[K]? = some (.cells 0 [.ip (oc o lv)] 0) →
    ∃ S', verify_block_form.p1110100 (.mp B 0 0) K (.fn (.func 47) [] [.mp K 0 0]) cv (((codesA o).length : Nat) : Int) ((i : Nat) : Int) S = some ⟨.ret (.bool (((codesA o).drop i).all (fun c => numB c.1 ((p.codes.length : Nat) : Int)) && kindA p o)), none, S'⟩ ∧ Keeps n0 S S' := by
  intro m
  induction m with
  | zero =>
    intro i S him hn0 hPl H hN hK
    have hi : i = (codesA o).length := by omega
    subst hi
    exact ⟨S, by rw [kind_spec H hs hN hl hK, List.drop_length]; rfl, Keeps.refl _ _⟩
  | succ m ih =>
    intro i S him hn0 hPl H hN hK
    have hi : i < (codesA o).length := by omega
    obtain ⟨x, hx, hd⟩ := drop_pair hi
    have hia := ins_at hc hx
    have w1 : IntKind.wrap .i64 (((i : Nat) : Int) + 1) = ((i + 1 : Nat) : Int) := w64 _ (by omega) (by omega)
    obtain ⟨S1, hS1⟩ : ∃ S1, S1 = S ++ [Ob.cells 0 [.int .i64 x.1, .int .i64 x.2] 0] := ⟨_, rfl⟩
    have H1 : Prg p P tx cd sx bl S1 := by rw [hS1]; exact H.mono (Keeps.app hPl)
    have hN1 : Now P V A O B k g lets ar S1 := by rw [hS1]; exact hN.mono ap_get
    have hK1 : S1[K]? = some (.cells 0 [.ip (oc o lv)] 0) := by rw [hS1]; exact app_get hK
    have hk1 : Keeps n0 S S1 := by rw [hS1]; exact Keeps.app hn0
    have hl1 : S.length ≤ S1.length := by rw [hS1]; simp
    have go : ∀ b, b = numB x.1 ((p.codes.length : Nat) : Int) → ∀ R, (bif !b then some ⟨.ret (.bool false), none, S1⟩ else verify_block_form.p1110100 (.mp B 0 0) K (.fn (.func 47) [] [.mp K 0 0]) cv (((codesA o).length : Nat) : Int) ((i + 1 : Nat) : Int) S1) = R → verify_block_form.p1110100 (.mp B 0 0) K (.fn (.func 47) [] [.mp K 0 0]) cv (((codesA o).length : Nat) : Int) ((i : Nat) : Int) S = R := by
      intro b hb R hR
      rw [verify_block_form.p1110100_eq]
      refine (bt (dtrue (by omega))).trans ?_
      refine (br hia).trans ?_
      refine (br (l2 _ _ _)).trans ?_
      refine (br (pair_new _ _ _)).trans ?_
      refine (br (pair_at0 _)).trans ?_
      refine (br (pair_get0 _ _ _)).trans ?_
      rw [← hS1]
      refine (rdM hN1.hB rfl).trans ?_
      refine (rdM hN1.hV rfl).trans ?_
      refine (rdM H1.hP rfl).trans ?_
      refine (br H1.hC.1).trans ?_
      refine (cr (number_spec _ _ S1)).trans ?_
      refine (it rfl).trans ?_
      refine (br (aB _)).trans ?_
      rw [w1, ← hb]
      exact hR
    cases hb : numB x.1 ((p.codes.length : Nat) : Int) with
    | false =>
      refine ⟨S1, ?_, hk1⟩
      refine go false hb.symm _ ?_
      refine (bt rfl).trans ?_
      rw [hd, List.all_cons, hb]
      rfl
    | true =>
      obtain ⟨S', e1, e2⟩ := ih (i + 1) S1 (by omega) (by omega) (by omega) H1 hN1 hK1
      refine ⟨S', ?_, hk1.trans e2⟩
      refine go true hb.symm _ ?_
      refine (bf rfl).trans ?_
      rw [e1, hd, List.all_cons, hb, Bool.true_and]

theorem codesA_len {o : OpA} (h : o.l.length ≤ 1050000) : (codesA o).length ≤ 1050000 := by
  unfold codesA
  repeat' split
  all_goals simp
  exact h

theorem form_spec (H : Prg p P tx cd sx bl S) (hs : Small p) (hN : Now P V A O B k g lets ar S) {o : OpA} {lv : AV} (hl : IntV o.l lv) (hol : o.l.length ≤ 1050000) (i : Nat) : CallR ap 32 [.mp B 0 0, .int .i64 ((i : Nat) : Int), .ip (oc o lv)] S = some (.ret (.bool (formA p i o)), S) := by
  rw [verify_block_form.call]
  suffices hb : ∃ S', verify_block_form.b (.mp B 0 0) ((i : Nat) : Int) (.ip (oc o lv)) S = some ⟨.ret (.bool (formA p i o)), none, S'⟩ ∧ Keeps S.length S S' by
    obtain ⟨S', k1, k2⟩ := hb
    exact ret_keep k1 rfl rfl k2
  obtain ⟨S1, hS1⟩ : ∃ S1, S1 = S ++ [Ob.cells 0 [.ip (oc o lv)] 0] := ⟨_, rfl⟩
  have hPl := (List.getElem?_eq_some_iff.1 H.hP).1
  have H1 : Prg p P tx cd sx bl S1 := by rw [hS1]; exact H.mono (Keeps.app hPl)
  have hN1 : Now P V A O B k g lets ar S1 := by rw [hS1]; exact hN.mono ap_get
  have hK1 : S1[S.length]? = some (.cells 0 [.ip (oc o lv)] 0) := by rw [hS1]; simp
  have hk1 : Keeps S.length S S1 := by rw [hS1]; exact Keeps.app (Nat.le_refl _)
  have hcells : AV.cells (.ip (oc o lv)) = [.ip (oc o lv)] := rfl
  rw [verify_block_form.b_eq, hcells]
  unfold formA
  have rest : ∀ b, b = (decide (8192 ≤ i) || decide (64 < o.l.length)) → ∃ S', verify_block_form.p1101 (.mp B 0 0) S.length (.fn (.func 47) [] [.mp S.length 0 0]) b S1 = some ⟨.ret (.bool (!(decide (8192 ≤ i) || decide (64 < o.l.length)) && ((codesA o).all (fun c => numB c.1 ((p.codes.length : Nat) : Int)) && kindA p o))), none, S'⟩ ∧ Keeps S.length S1 S' := by
    intro b hb
    rw [← hb, verify_block_form.p1101_eq]
    cases b with
    | true => exact ⟨S1, bt rfl, Keeps.refl _ _⟩
    | false =>
      obtain ⟨cv, hc, hcv⟩ := codes_spec hl hol S1
      obtain ⟨S', e1, e2⟩ := form_loop hs hl (K := S.length) (n0 := S.length) hcv (codesA_len hol) (codesA o).length 0 S1 (by omega) (by rw [hS1]; simp) (by rw [hS1]; simp; omega) H1 hN1 hK1
      refine ⟨S', ?_, e2⟩
      refine (bf rfl).trans ?_
      refine (br (m_get (n := 0) hK1 rfl)).trans ?_
      refine (cr hc).trans ?_
      refine (br hcv.len).trans ?_
      exact e1
  by_cases h1 : 8192 ≤ i
  · obtain ⟨S', e1, e2⟩ := rest true (by rw [dtrue h1, Bool.true_or])
    refine ⟨S', ?_, hk1.trans e2⟩
    refine (it rfl).trans ?_
    rw [← hS1]
    exact (bt (dtrue (by omega))).trans e1
  · obtain ⟨S', e1, e2⟩ := rest (decide (64 < o.l.length)) (by rw [dfalse h1, Bool.false_or])
    refine ⟨S', ?_, hk1.trans e2⟩
    refine (it rfl).trans ?_
    rw [← hS1]
    refine (bf (dfalse (by omega))).trans ?_
    refine (rK hK1 (j := 4) rfl).trans ?_
    refine (br hl.1).trans ?_
    rw [show decide (64 < ((o.l.length : Nat) : Int)) = decide (64 < o.l.length) from decide_eq_decide.2 (by omega)]
    exact e1
end
end Go.Proofs.YtcgepgahgihojaaDoor
