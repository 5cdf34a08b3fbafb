/- LexTexts at the machine. -/
import Derived.Test.YtigdijdpggjpiaaDoorG
namespace Go.Proofs.YtigdijdpggjpiaaDoor
open Go.St Go.Lib
set_option linter.unusedVariables false
set_option linter.unusedSimpArgs false

theorem esc_le (l : List UInt8) : (esc false l).length ≤ (esc true l).length := by
  induction l with
  | nil => exact Nat.le_refl _
  | cons c r ih =>
    rw [esc_cons, esc_cons, List.length_append, List.length_append]
    have : (E1 false c).length ≤ (E1 true c).length := by
      rcases E1_cases false c with ⟨rfl, e⟩ | ⟨rfl, e⟩ | ⟨rfl, e⟩ | ⟨rfl, e⟩ | ⟨_, h, _⟩ | ⟨h1, h2, h3, h4, h5, e⟩
      · decide
      · decide
      · decide
      · decide
      · cases h
      · rw [e]
        exact List.length_pos_iff.2 (E1_ne true c)
    omega
theorem V_out {l : List UInt8} (h : V l) {r : Option Nat} (hr : Scan (mk l) 0 r) : r = none := (scan_det h hr).symm
theorem V_bad {l : List UInt8} (h : ¬ V l) {r : Option Nat} (hr : Scan (mk l) 0 r) : ∃ a, r = some a := by
  cases r with
  | none => exact absurd hr h
  | some a => exact ⟨a, rfl⟩

/-- What is bad is bad with a text behind it, where that begins with no tail of a rune. -/
theorem V_front {l : List UInt8} {k : Nat} (h : V (l ++ outd)) (ha : Scan (mk l) 0 (some k)) : V l := by
  have : ∀ (m : Nat) (l : List UInt8), l.length ≤ m → V (l ++ outd) → V l := by
    intro m
    induction m with
    | zero =>
      intro l h _
      have : l = [] := List.eq_nil_of_length_eq_zero (by omega)
      subst this
      exact V_nil
    | succ m ih =>
      intro l hl hv
      cases l with
      | nil => exact V_nil
      | cons c r =>
        have h0 : 0 < (c :: r ++ outd).length := by simp
        have hi : 0 < (mk (c :: r ++ outd)).size := by rw [mk_size]; exact h0
        have hnb : ¬ Bad (mk (c :: r ++ outd)) 0 := fun hb => by
          have := scan_det hv (.bad 0 hi hb)
          cases this
        obtain ⟨t1, t2⟩ := V_take h0 hnb
        have hp := dec_pos (mk (c :: r ++ outd)) 0
        have hhi : 128 ≤ bat (mk (c :: r ++ outd)) 0 → ∀ k, k < (dec (mk (c :: r ++ outd)) 0).2 → 128 ≤ bat (mk (c :: r ++ outd)) (0 + k) := fun h => rune_hi hi hnb h
        have hlo : bat (mk (c :: r ++ outd)) 0 < 128 → (dec (mk (c :: r ++ outd)) 0).2 = 1 := fun h => by
          rw [dec_eq]
          rcases decodeN_cases ((mk (c :: r ++ outd)).size - 0) (bat (mk (c :: r ++ outd)) 0) (bat (mk (c :: r ++ outd)) (0 + 1)) (bat (mk (c :: r ++ outd)) (0 + 2)) (bat (mk (c :: r ++ outd)) (0 + 3)) (bat_lt _ _) with ⟨_, h⟩ | ⟨h0, _⟩ | h
          · rw [h]
          · omega
          · omega
        obtain ⟨k, hk⟩ : ∃ k, k = (dec (mk (c :: r ++ outd)) 0).2 := ⟨_, rfl⟩
        rw [← hk] at t1 t2 hp hhi hlo
        have hkl : k ≤ (c :: r).length := by
          by_cases h8 : bat (mk (c :: r ++ outd)) 0 < 128
          · rw [hlo h8]
            simp
          · refine Classical.byContradiction fun hn => ?_
            have := hhi (by omega) (c :: r).length (by omega)
            rw [Nat.zero_add, bat_mk, List.getElem?_append_right (Nat.le_refl _), Nat.sub_self] at this
            revert this
            decide
        rw [List.take_append_of_le_length hkl] at t1
        have hsp : c :: r = (c :: r).take k ++ (c :: r).drop k := (List.take_append_drop k _).symm
        have h2 : V ((c :: r).drop k ++ outd) := by
          refine (V_app t1).1 ?_
          rw [← List.append_assoc, ← hsp]
          exact hv
        have h3 := ih ((c :: r).drop k) (by rw [List.length_drop]; simp only [List.length_cons] at *; omega) h2
        rw [hsp]
        exact (V_app t1).2 h3
  exact this _ l (Nat.le_refl _) h

def textsT (l : List UInt8) : List Tk := if l = [] then [] else [⟨1, [], l, 0⟩]
def attrT (l : List UInt8) : List Tk := [⟨3, [112], [], 0⟩, ⟨4, [97], l, 3⟩, ⟨7, [], [], (esc true l).length + 7⟩]
theorem texts_pure (l : List UInt8) {r1 r2 : Option Nat} (h1 : Scan (mk (esc false l)) 0 r1) (h2 : Scan (mk (ind ++ (esc true l ++ outd))) 0 r2) :
    (∃ e1 e2, lexR (mk (esc false l)) r1 = .error e1 ∧ lexR (mk (ind ++ (esc true l ++ outd))) r2 = .error e2 ∧ (e1.1 = 1200 ∨ e1.1 = 1201) ∧ (e2.1 = 1200 ∨ e2.1 = 1201)) ∨
    (lexR (mk (esc false l)) r1 = .ok (textsT l) ∧ lexR (mk (ind ++ (esc true l ++ outd))) r2 = .ok (attrT l)) := by
  have hi : V ind := V_ascii (by decide)
  have ho : V outd := V_ascii (by decide)
  have hB : V (ind ++ (esc true l ++ outd)) ↔ V l := by
    rw [V_app hi]
    constructor
    · intro h
      refine Classical.byContradiction fun hn => ?_
      have hn' : ¬ V (esc true l) := fun h => hn ((V_esc true _ l (Nat.le_refl _)).1 h)
      obtain ⟨a, ha⟩ := scan_ex (mk (esc true l)) (mk (esc true l)).size 0 (by omega) (Nat.zero_le _)
      obtain ⟨k, rfl⟩ := V_bad hn' ha
      exact hn' (V_front h ha)
    · intro h
      exact (V_app ((V_esc true _ l (Nat.le_refl _)).2 h)).2 ho
  have hle := esc_le l
  have z1 : (mk (esc false l)).size = (esc false l).length := mk_size _
  have z2 : (mk (ind ++ (esc true l ++ outd))).size = (esc true l).length + 9 := by rw [mk_size]; simp [ind, outd]
  have len1 := esc_len true l
  unfold lexR
  by_cases hv : V l
  · have e1 := V_out ((V_esc false _ l (Nat.le_refl _)).2 hv) h1
    have e2 := V_out (hB.2 hv) h2
    subst e1 e2
    by_cases b1 : 65536 < (mk (esc false l)).size
    · left
      rw [if_pos b1, if_pos (by omega)]
      exact ⟨_, _, rfl, rfl, .inr rfl, .inr rfl⟩
    · rw [if_neg b1]
      by_cases big : 4096 < l.length
      · left
        have hne : l ≠ [] := by rintro rfl; simp at big
        have hpos : 0 < (esc false l).length := by
          cases l with
          | nil => exact absurd rfl hne
          | cons c r => rw [esc_cons, List.length_append]; have := List.length_pos_iff.2 (E1_ne false c); omega
        have t1 := lex_text l hne ((mk (esc false l)).size - 1)
        rw [if_pos big, show (mk (esc false l)).size - 1 + 2 = (mk (esc false l)).size + 1 by omega] at t1
        refine ⟨(1201, 0), ?_⟩
        by_cases b2 : 65536 < (mk (ind ++ (esc true l ++ outd))).size
        · rw [if_pos b2]
          exact ⟨_, by simpa [mk_list] using t1, rfl, .inr rfl, .inr rfl⟩
        · rw [if_neg b2]
          have t2 := lex_attr l ((mk (ind ++ (esc true l ++ outd))).size - 1)
          rw [if_pos big, show (mk (ind ++ (esc true l ++ outd))).size - 1 + 2 = (mk (ind ++ (esc true l ++ outd))).size + 1 by omega] at t2
          exact ⟨(1201, 5), by simpa [mk_list] using t1, by simpa only [mk_list] using t2, .inr rfl, .inr rfl⟩
      · right
        rw [if_neg (by omega)]
        have t2 := lex_attr l ((mk (ind ++ (esc true l ++ outd))).size - 1)
        rw [if_neg big, show (mk (ind ++ (esc true l ++ outd))).size - 1 + 2 = (mk (ind ++ (esc true l ++ outd))).size + 1 by omega] at t2
        refine ⟨?_, by rw [mk_list]; exact t2⟩
        by_cases hne : l = []
        · subst hne
          rfl
        · have hpos : 0 < (esc false l).length := by
            cases l with
            | nil => exact absurd rfl hne
            | cons c r => rw [esc_cons, List.length_append]; have := List.length_pos_iff.2 (E1_ne false c); omega
          have t1 := lex_text l hne ((mk (esc false l)).size - 1)
          rw [if_neg big, show (mk (esc false l)).size - 1 + 2 = (mk (esc false l)).size + 1 by omega] at t1
          unfold textsT
          rw [if_neg hne]
          simpa only [mk_list] using t1
  · left
    have n1 : ¬ V (esc false l) := fun h => hv ((V_esc false _ l (Nat.le_refl _)).1 h)
    obtain ⟨a, rfl⟩ := V_bad n1 h1
    obtain ⟨b, rfl⟩ := V_bad (fun h => hv (hB.1 h)) h2
    by_cases b1 : 65536 < (mk (esc false l)).size
    · rw [if_pos b1]
      by_cases b2 : 65536 < (mk (ind ++ (esc true l ++ outd))).size
      · rw [if_pos b2]; exact ⟨_, _, rfl, rfl, .inr rfl, .inr rfl⟩
      · rw [if_neg b2]; exact ⟨_, _, rfl, rfl, .inr rfl, .inl rfl⟩
    · rw [if_neg b1]
      by_cases b2 : 65536 < (mk (ind ++ (esc true l ++ outd))).size
      · rw [if_pos b2]; exact ⟨_, _, rfl, rfl, .inl rfl, .inr rfl⟩
      · rw [if_neg b2]; exact ⟨_, _, rfl, rfl, .inl rfl, .inl rfl⟩

theorem texts_law (s : ByteArray) (hs : s.size ≤ 1048576) : CallR ap 6 [.str s] [] = some (.ret (.bool true), []) := by
  obtain ⟨l, hl⟩ : ∃ l, l = s.data.toList := ⟨_, rfl⟩
  have hsl : s = mk l := by rw [hl, mk_data]
  have hlen : l.length ≤ 1048576 := by rw [hl, ← size_list]; exact hs
  have len0 := esc_len false l
  have len1 := esc_len true l
  obtain ⟨r1, h1⟩ := scan_ex (mk (esc false l)) (mk (esc false l)).size 0 (by omega) (Nat.zero_le _)
  obtain ⟨r2, h2⟩ := scan_ex (mk (ind ++ (esc true l ++ outd))) (mk (ind ++ (esc true l ++ outd))).size 0 (by omega) (Nat.zero_le _)
  have z1 : (mk (esc false l)).size = (esc false l).length := mk_size _
  have z2 : (mk (ind ++ (esc true l ++ outd))).size = (esc true l).length + 9 := by rw [mk_size]; simp [ind, outd]
  have ht : ∀ st, CallR ap 14 [.str s] st = some (.ret (.str (mk (esc false l))), st) := fun st => by rw [text s (by omega) st, hl]
  have ha : ∀ st, CallR ap 15 [.str s] st = some (.ret (.str (mk (esc true l))), st) := fun st => by rw [attr s (by omega) st, hl]
  have l1 := lex_spec (s := mk (esc false l)) (by omega) h1 []
  have c1 : ByteArray.size (⟨#[60, 112, 32, 97, 61, 34]⟩ : ByteArray) + (mk (esc true l)).size ≤ 9223372036854775807 := by rw [mk_size, show ByteArray.size (⟨#[60, 112, 32, 97, 61, 34]⟩ : ByteArray) = 6 from rfl]; omega
  have c2 : ByteArray.size ((⟨#[60, 112, 32, 97, 61, 34]⟩ : ByteArray) ++ mk (esc true l)) + ByteArray.size (⟨#[34, 47, 62]⟩ : ByteArray) ≤ 9223372036854775807 := by
    rw [ByteArray.size_append, mk_size, show ByteArray.size (⟨#[60, 112, 32, 97, 61, 34]⟩ : ByteArray) = 6 from rfl, show ByteArray.size (⟨#[34, 47, 62]⟩ : ByteArray) = 3 from rfl]; omega
  have hjoin : ((⟨#[60, 112, 32, 97, 61, 34]⟩ : ByteArray) ++ mk (esc true l)) ++ (⟨#[34, 47, 62]⟩ : ByteArray) = mk (ind ++ (esc true l ++ outd)) := by
    rw [show (⟨#[60, 112, 32, 97, 61, 34]⟩ : ByteArray) = mk ind from rfl, show (⟨#[34, 47, 62]⟩ : ByteArray) = mk outd from rfl, mk_app, mk_app, List.append_assoc]
  rw [stencillaw12_LexTexts.call]
  rcases texts_pure l h1 h2 with ⟨e1, e2, k1, k2, k3, k4⟩ | ⟨k1, k2⟩
  · rw [k1] at l1
    have l1 : CallR ap 7 [.str (mk (esc false l))] [] = some (.ret (.tup [.nils, .int .i64 (e1.2 : Nat), .int .i64 (e1.1 : Nat)]), []) := l1
    have l2 := lex_spec (s := mk (ind ++ (esc true l ++ outd))) (by omega) h2 []
    rw [k2] at l2
    have l2 : CallR ap 7 [.str (mk (ind ++ (esc true l ++ outd)))] [] = some (.ret (.tup [.nils, .int .i64 (e2.2 : Nat), .int .i64 (e2.1 : Nat)]), []) := l2
    have yes : ∀ (x y z : AV), stencillaw12_LexTexts.p111101 s x z y (.int .i64 ((e2.1 : Nat) : Int)) true [] = some ⟨.ret (.bool true), none, []⟩ := by
      intro x y z
      rw [stencillaw12_LexTexts.p111101_eq]
      rcases k4 with k4 | k4
      · simp only [cond_true, num, Option.bind_some, Out.on, asI, if_true, k4, show decide ((((1200 : Nat) : Int)) = 1200) = true from rfl]
      · simp only [cond_true, num, Option.bind_some, Out.on, asI, if_true, k4, show decide ((((1201 : Nat) : Int)) = 1200) = false from rfl, cond_false, show decide ((((1201 : Nat) : Int)) = 1201) = true from rfl]
    refine ret_keep ?_ rfl rfl (Keeps.refl _ _)
    rw [stencillaw12_LexTexts.b_eq]
    simp only [awake_spec, Option.bind_some, Out.on, asB, Bool.not_true, cond_false, ht, l1, ext, List.getElem?_cons_zero, List.getElem?_cons_succ, ha, asS, c1, c2, if_true, hjoin, l2, num, asI]
    rcases k3 with k3 | k3
    · simp only [k3, show decide ((((1200 : Nat) : Int)) = 1200) = true from rfl, cond_true, yes]
    · simp only [k3, show decide ((((1201 : Nat) : Int)) = 1200) = false from rfl, cond_false, show decide ((((1201 : Nat) : Int)) = 1201) = true from rfl, cond_true, yes]
  · rw [k1] at l1
    obtain ⟨x, st1, j1, j2, j3⟩ := l1
    have l2 := lex_spec (s := mk (ind ++ (esc true l ++ outd))) (by omega) h2 st1
    rw [k2] at l2
    obtain ⟨y, st2, m1, m2, m3⟩ := l2
    have j4 := j2.keep m3
    obtain ⟨id, g, o, a1, a2, a3⟩ := m2.at (j := 1) (t := ⟨4, [97], l, 3⟩) rfl
    obtain ⟨f1, f2⟩ := a3 2 (.str (mk l)) rfl
    obtain ⟨f3, f4⟩ := a3 0 (.int .i64 4) rfl
    have a1 : ia 4 y (.int .i64 1) = some (.mp id g o) := a1
    have start : stencillaw12_LexTexts.b s [] = stencillaw12_LexTexts.p111101 s x (.int .i64 0) y (.int .i64 0) false st2 := by
      rw [stencillaw12_LexTexts.b_eq]
      simp only [awake_spec, Option.bind_some, Out.on, asB, Bool.not_true, cond_false, ht, j1, ext, List.getElem?_cons_zero, List.getElem?_cons_succ, ha, asS, c1, c2, if_true, hjoin, m1, num, asI, show decide ((0 : Int) = 1200) = false from rfl, show decide ((0 : Int) = 1201) = false from rfl]
    refine ret_keep (st' := st2) ?_ rfl rfl (j3.trans ⟨m3.len, fun i hi => by simp at hi⟩)
    rw [start, stencillaw12_LexTexts.p111101_eq]
    have hs2 : decide (mk l = s) = true := decide_eq_true hsl.symm
    have h3 : decide ((((attrT l).length : Nat) : Int) = 3) = true := rfl
    have h4 : decide ((4 : Int) = 4) = true := rfl
    simp only [cond_false, num, Option.bind_some, Out.on, asI, if_true, show decide ((0 : Int) = 0) = true from rfl, Bool.not_true, m2.len, h3, a1, f1, f2, f3, f4, asS, hs2, h4, decide_true, cond_true]
    rw [stencillaw12_LexTexts.p1111101_eq]
    simp only [cond_false]
    by_cases hne : l = []
    · have e0 : decide (s = (⟨#[]⟩ : ByteArray)) = true := decide_eq_true (by rw [hsl, hne]; rfl)
      have hT : textsT l = [] := by unfold textsT; rw [if_pos hne]
      have h0 : decide ((((textsT l).length : Nat) : Int) = 0) = true := by rw [hT]; rfl
      simp only [e0, cond_true, j4.len, Option.bind_some, h0]
    · have e0 : decide (s = (⟨#[]⟩ : ByteArray)) = false := decide_eq_false fun h => hne (by
        rw [hsl] at h
        exact mk_inj (b := []) h)
      have hT : textsT l = [⟨1, [], l, 0⟩] := by unfold textsT; rw [if_neg hne]
      have h0 : decide ((((textsT l).length : Nat) : Int) = 1) = true := by rw [hT]; rfl
      obtain ⟨p, b1, b2⟩ := j4.reads.at_ 0 ⟨1, [], l, 0⟩ (by rw [hT]; rfl)
      have b1 : ia 4 x (.int .i64 0) = some p := b1
      have hag : aggA (fillA (fun i => ([(0, 1), (1, 1), (2, 1), (3, 1)] : List (Nat × Nat))[i]?) [.int .i64 0, .str ⟨#[]⟩, .str ⟨#[]⟩, .int .i64 0] [(0, (.int .i64 1)), (2, (.str (mk l)))]) = some (.agg (tcell ⟨1, [], l, 0⟩)) := rfl
      rw [← hsl] at hag
      simp only [e0, cond_false, j4.len, Option.bind_some, h0, cond_true, b1, b2, hag, eq_tok, decide_true]
end Go.Proofs.YtigdijdpggjpiaaDoor
