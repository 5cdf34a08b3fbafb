/- What the document's Plain gives. -/
import Derived.Test.YtigdijdpggjpiaaDoorH
namespace Go.Proofs.YtigdijdpggjpiaaDoor
open Go.St
set_option linter.unusedVariables false
set_option linter.unusedSimpArgs false

def fiveB : ByteArray := ⟨#[38, 60, 62, 123, 34]⟩

theorem ref_found (s : ByteArray) (x : AV) (i k : Int) (st : Sto) : stencilref4_Plain.p111000101110100 s x i true fiveB k st = stencilref4_Plain.p111000 s x i st := by
  rw [stencilref4_Plain.p111000101110100_eq]
  cases decide (k < ((ByteArray.size fiveB : Nat) : Int)) <;> simp only [cond_true, cond_false, Bool.not_true] <;> rw [stencilref4_Plain.p11100010111010001_eq] <;> rfl

theorem ref_inner (s : ByteArray) (n i : Nat) (acc : List UInt8) (hs : s.size ≤ 8388608) (hi : i < s.size) (hacc : acc.length ≤ i) : ∀ (m k : Nat), k + m = 5 → ∀ (x : AV) (st : Sto), n ≤ st.length → BufA n st x acc →
    (∃ d x' st1, hit (five.drop k) (s.data.toList.drop i) = some d ∧ BufA n st1 x' (acc ++ [d]) ∧ Keeps n st st1 ∧
      stencilref4_Plain.p111000101110100 s x (i : Int) false fiveB (k : Int) st = stencilref4_Plain.p111000 s x' ((i + (W d.toNat true).size : Nat) : Int) st1) ∨
    (hit (five.drop k) (s.data.toList.drop i) = none ∧ stencilref4_Plain.p111000101110100 s x (i : Int) false fiveB (k : Int) st = some ⟨.ret (.tup [.str ⟨#[]⟩, .int .i64 (i : Int), .int .i64 400]), none, st⟩) := by
  intro m
  induction m with
  | zero =>
    intro k hk x st hn hx
    have : k = 5 := by omega
    subst this
    right
    refine ⟨rfl, ?_⟩
    rw [stencilref4_Plain.p111000101110100_eq]
    have : ¬ (((5 : Nat) : Int) < ((ByteArray.size fiveB : Nat) : Int)) := by decide
    simp only [this, decide_false, cond_false]
    rw [stencilref4_Plain.p11100010111010001_eq]
    rfl
  | succ m ih =>
    intro k hk x st hn hx
    have hk5 : k < 5 := by omega
    have hkb : k < ByteArray.size fiveB := hk5
    obtain ⟨d, hd, hby, _⟩ := byt_at hkb
    have hdrop : five.drop k = d :: five.drop (k + 1) := by
      obtain ⟨h1, h2⟩ := List.getElem?_eq_some_iff.1 (show five[k]? = some d from hd)
      rw [List.drop_eq_getElem_cons h1, h2]
    have hlt : ((k : Int) < ((ByteArray.size fiveB : Nat) : Int)) := by
      have : ByteArray.size fiveB = 5 := rfl
      omega
    have hW8 := W_size d.toNat true
    have hhit : hit (d :: five.drop (k + 1)) (s.data.toList.drop i) = if (W d.toNat true).data.toList.isPrefixOf (s.data.toList.drop i) then some d else hit (five.drop (k + 1)) (s.data.toList.drop i) := by
      simp only [hit, List.find?_cons]
      split <;> simp_all
    have hw1 : IntKind.wrap .i64 ((k : Int) + 1) = ((k + 1 : Nat) : Int) := by rw [wrap64 (by omega) (by omega)]; simp
    have hwd : IntKind.wrap .i64 (((ByteArray.size s : Nat) : Int) - (i : Int)) = ((s.size - i : Nat) : Int) := by rw [wrap64 (by omega) (by omega)]; omega
    have hwi : IntKind.wrap .i64 ((i : Int) + (((W d.toNat true).size : Nat) : Int)) = ((i + (W d.toNat true).size : Nat) : Int) := by rw [wrap64 (by omega) (by omega)]; simp
    rw [stencilref4_Plain.p111000101110100_eq]
    simp only [hlt, decide_true, cond_true, Bool.not_false]
    rw [stencilref4_Plain.p11100010111010001_eq]
    simp only [cond_true, idx_nat hkb, Option.bind_some, hby, entity, Out.on, asS, hwd, hwi]
    rw [hdrop, hhit]
    have no : ∀ (b : Bool), b = false → stencilref4_Plain.p11100010111010010011 s x (i : Int) false fiveB (k : Int) (.str (W d.toNat true)) b st = stencilref4_Plain.p111000101110100 s x (i : Int) false fiveB ((k + 1 : Nat) : Int) st := by
      rintro b rfl
      rw [stencilref4_Plain.p11100010111010010011_eq]
      simp only [cond_false]
      rw [stencilref4_Plain.p11100010111010011_eq, hw1]
    by_cases hle : (W d.toNat true).size ≤ s.size - i
    · have h1 : ((((W d.toNat true).size : Nat) : Int) ≤ ((s.size - i : Nat) : Int)) := by omega
      have hpx : decide ((ByteArray.extract s i (i + (W d.toNat true).size)) = W d.toNat true) = (W d.toNat true).data.toList.isPrefixOf (s.data.toList.drop i) := by
        rw [pre_iff, decide_eq_decide, ba_ext, ext_list, ← size_list]
        have : i + (W d.toNat true).size - i = (W d.toNat true).size := by omega
        rw [this]
      simp only [h1, decide_true, cond_true, bnd_int (show i + (W d.toNat true).size ≤ s.size by omega), Option.bind_some, bnd_int (show i ≤ i + (W d.toNat true).size by omega), hpx]
      cases hp : (W d.toNat true).data.toList.isPrefixOf (s.data.toList.drop i) with
      | true =>
        left
        obtain ⟨x', st1, h2, h3, h4⟩ := bufA_add (str := false) hx hn (tail_byte d st) (by simp; omega)
        refine ⟨d, x', st1, rfl, h3, h4, ?_⟩
        rw [stencilref4_Plain.p11100010111010010011_eq]
        simp only [cond_true, idx_nat hkb, Option.bind_some, hby, lit_byte (.int .u8 ((d.toNat : Nat) : Int)) rfl, h2, asS, hwi]
        rw [stencilref4_Plain.p11100010111010011_eq, ref_found]
      | false =>
        rw [no false rfl]
        simpa using ih (k + 1) (by omega) x st hn hx
    · have h1 : ¬ ((((W d.toNat true).size : Nat) : Int) ≤ ((s.size - i : Nat) : Int)) := by omega
      have hp : (W d.toNat true).data.toList.isPrefixOf (s.data.toList.drop i) = false := by
        rw [Bool.eq_false_iff]
        intro h
        have := (List.isPrefixOf_iff_prefix.1 h).length_le
        rw [List.length_drop, ← size_list, ← size_list] at this
        omega
      simp only [h1, decide_false, cond_false, hp, Bool.false_eq_true, if_false]
      rw [no false rfl]
      exact ih (k + 1) (by omega) x st hn hx

theorem plref_loop (s : ByteArray) (n0 : Nat) (hs : s.size ≤ 8388608) : ∀ (n i : Nat) (x : AV) (st : Sto) (acc : List UInt8), s.size ≤ i + n → i ≤ s.size → acc.length ≤ i → n0 ≤ st.length → BufA n0 st x acc →
    ∃ st', stencilref4_Plain.p111000 s x (i : Int) st = some ⟨.ret (plOut (pl n (s.data.toList.drop i) i acc)), none, st'⟩ ∧ Keeps n0 st st' := by
  intro n
  induction n with
  | zero =>
    intro i x st acc hn hi hacc hl hx
    have : ¬ ((i : Int) < ((s.size : Nat) : Int)) := by omega
    rw [stencilref4_Plain.p111000_eq]
    simp only [this, decide_false, cond_false, bufA_text hx, Option.bind_some]
    exact ⟨st, rfl, Keeps.refl _ _⟩
  | succ n ih =>
    intro i x st acc hn hi hacc hl hx
    rw [stencilref4_Plain.p111000_eq]
    by_cases hlt : i < s.size
    · obtain ⟨c, hc, hby, _⟩ := byt_at hlt
      have hlt' : ((i : Int) < ((s.size : Nat) : Int)) := by omega
      have hcons : s.data.toList.drop i = c :: s.data.toList.drop (i + 1) := by
        obtain ⟨h1, h2⟩ := List.getElem?_eq_some_iff.1 hc
        rw [List.drop_eq_getElem_cons h1, h2]
      simp only [hlt', decide_true, cond_true, idx_nat hlt, Option.bind_some, hby]
      by_cases h38 : c = 38
      · subst h38
        have h1 : ((((38 : UInt8).toNat : Nat) : Int) = 38) := rfl
        simp only [h1, decide_true, Bool.not_true, cond_false]
        have hin := ref_inner s n0 i acc hs hlt hacc 5 0 rfl x st hl hx
        simp only [Int.natCast_zero, List.drop_zero] at hin
        have hpl : pl (n + 1) (s.data.toList.drop i) i acc = match hit five (s.data.toList.drop i) with
            | some d => pl n ((s.data.toList.drop i).drop (W d.toNat true).size) (i + (W d.toNat true).size) (acc ++ [d])
            | none => (none, i) := by rw [hcons]; simp only [pl, ne_eq, not_true_eq_false, if_false]; rfl
        rw [hpl]
        rcases hin with ⟨d, x', st1, hh, h2, h3, h4⟩ | ⟨hh, h4⟩
        · obtain ⟨hm, hp⟩ := hit_mem hh
          have hpos := W_pos hm
          have hle : i + (W d.toNat true).size ≤ s.size := by
            have := (List.isPrefixOf_iff_prefix.1 hp).length_le
            rw [← size_list, List.length_drop, ← size_list] at this
            omega
          obtain ⟨st', h5, h6⟩ := ih (i + (W d.toNat true).size) x' st1 (acc ++ [d]) (by omega) hle (by simp; omega) (Nat.le_trans hl h3.len) h2
          refine ⟨st', ?_, h3.trans h6⟩
          simp only [hh, List.drop_drop]
          exact h4.trans h5
        · refine ⟨st, ?_, Keeps.refl _ _⟩
          simp only [hh]
          exact h4
      · have h1 : ¬ (((c.toNat : Nat) : Int) = 38) := fun e => h38 (by
          have : c.toNat = 38 := by omega
          exact UInt8.toNat_inj.1 this)
        have hw : IntKind.wrap .i64 ((i : Int) + 1) = ((i + 1 : Nat) : Int) := by rw [wrap64 (by omega) (by omega)]; simp
        obtain ⟨x', st1, h2, h3, h4⟩ := bufA_add (str := false) hx hl (tail_byte c st) (by simp; omega)
        simp only [h1, decide_false, Bool.not_false, cond_true, lit_byte (.int .u8 ((c.toNat : Nat) : Int)) rfl, Option.bind_some, h2, hw]
        obtain ⟨st', h5, h6⟩ := ih (i + 1) x' st1 (acc ++ [c]) (by omega) (by omega) (by simp; omega) (Nat.le_trans hl h4.len) h3
        refine ⟨st', ?_, h4.trans h6⟩
        rw [h5, hcons]
        simp only [pl, ne_eq, h38, not_false_eq_true, if_true]
    · have : ¬ ((i : Int) < ((s.size : Nat) : Int)) := by omega
      have hnil : s.data.toList.drop i = [] := List.drop_eq_nil_of_le (by rw [← size_list]; omega)
      simp only [this, decide_false, cond_false, bufA_text hx, Option.bind_some, hnil, pl]
      exact ⟨st, rfl, Keeps.refl _ _⟩

theorem plainRef (s : ByteArray) (hs : s.size ≤ 8388608) (st : Sto) : CallR ap 54 [.str s] st = some (.ret (plOut (pl s.size s.data.toList 0 [])), st) := by
  rw [stencilref4_Plain.call, stencilref4_Plain.b_eq]
  obtain ⟨st', h, hk⟩ := plref_loop s st.length hs s.size 0 .nils st [] (by omega) (by omega) (by simp) (Nat.le_refl _) (bufA_nil _ _)
  simp only [Int.natCast_zero, List.drop_zero] at h
  rw [h]
  simp only [Option.bind_some]
  rw [plOut_gc _ hk]

end Go.Proofs.YtigdijdpggjpiaaDoor
