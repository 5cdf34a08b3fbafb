/- The document's lexer: its parts. -/
import Derived.Test.YtigdijdpggjpiaaDoorM
namespace Go.Proofs.YtigdijdpggjpiaaDoor
open Go.St Go.Lib
set_option linter.unusedVariables false
set_option linter.unusedSimpArgs false

def RX (s : ByteArray) (a : Nat) (x : AV) (c b : Nat) : Ob := .cells 0 [.str s, .int .i64 (a : Nat), x, .int .i64 (c : Nat), .int .i64 (b : Nat)] 0
theorem rx_old {s : ByteArray} {a : Nat} {x : AV} {c b m : Nat} (h : x.old m = true) : (RX s a x c b).old m = true := by
  simp [RX, Ob.old, olds, AV.old, h]

section
variable {st : Sto} {s : ByteArray} {n a c b : Nat} {x : AV} (h : st[n]? = some (RX s a x c b))
include h
theorem rx_s : ld false 1 st (.mp n 0 0) = some (.str s) := m_get h rfl
theorem rx_at : ld false 1 st (.mp n 0 1) = some (.int .i64 (a : Nat)) := m_get h rfl
theorem rx_out : ld false 1 st (.mp n 0 2) = some x := m_get h rfl
theorem rx_code : ld false 1 st (.mp n 0 3) = some (.int .i64 (c : Nat)) := m_get h rfl
theorem rx_bad : ld false 1 st (.mp n 0 4) = some (.int .i64 (b : Nat)) := m_get h rfl
theorem rx_sat (k : Nat) : sto 1 st (.mp n 0 1) (.int .i64 (k : Nat)) = some (st.set n (RX s k x c b)) := sto_at h (show 1 < 5 by decide) rfl rfl
theorem rx_scode (k : Nat) : sto 1 st (.mp n 0 3) (.int .i64 (k : Nat)) = some (st.set n (RX s a x k b)) := sto_at h (show 3 < 5 by decide) rfl rfl
theorem rx_sbad (k : Nat) : sto 1 st (.mp n 0 4) (.int .i64 (k : Nat)) = some (st.set n (RX s a x c k)) := sto_at h (show 4 < 5 by decide) rfl rfl
theorem rx_lt : n < st.length := (List.getElem?_eq_some_iff.1 h).1
theorem rx_sout {y : AV} (hc : y.isCell = true) : sto 1 st (.mp n 0 2) y = some (st.set n (RX s a y c b)) := sto_at h (show 2 < 5 by decide) hc (avcells_one hc)
end

theorem here_spec {st : Sto} {s : ByteArray} {n a c b : Nat} {x : AV} (h : st[n]? = some (RX s a x c b)) (ha : a ≤ s.size) (hs : s.size ≤ 65536) (w : ByteArray) (hw : w.size ≤ 65536) :
    CallR ap 20 [.mp n 0 0, .str w] st = some (.ret (.bool (pre w.data.toList (s.data.toList.drop a))), st) := by
  have hwr : IntKind.wrap .i64 (((s.size : Nat) : Int) - ((a : Nat) : Int)) = ((s.size - a : Nat) : Int) := w64 _ (by omega) (by omega)
  rw [stencilref12_lexer_here.call]
  refine ret_keep ?_ rfl rfl (Keeps.refl _ _)
  rw [stencilref12_lexer_here.b_eq]
  simp only [nkm, fam, rx_s h, rx_at h, Option.bind_some, asS, asI, if_true, hwr]
  unfold pre
  rw [pre_iff]
  by_cases hle : w.size ≤ s.size - a
  · have e : (((w.size : Nat) : Int) ≤ ((s.size - a : Nat) : Int)) := by omega
    have hw2 : IntKind.wrap .i64 (((a : Nat) : Int) + ((w.size : Nat) : Int)) = ((a + w.size : Nat) : Int) := w64 _ (by omega) (by omega)
    have b1 : bnd s.size s.size (some (.int .i64 ((a + w.size : Nat) : Int))) = some (a + w.size) := bnd_int (by omega)
    have b2 : bnd 0 (a + w.size) (some (.int .i64 ((a : Nat) : Int))) = some a := bnd_int (by omega)
    simp only [e, decide_true, cond_true, hw2, b1, b2, Option.bind_some, ba_ext, ext_list, Nat.add_sub_cancel_left, ← size_list]
  · have e : ¬ (((w.size : Nat) : Int) ≤ ((s.size - a : Nat) : Int)) := by omega
    have : ¬ (List.take w.data.toList.length (List.drop a s.data.toList) = w.data.toList) := by
      intro h
      have := congrArg List.length h
      rw [List.length_take, List.length_drop, ← size_list, ← size_list] at this
      omega
    simp only [e, decide_false, cond_false, this]

theorem rfail_spec {st : Sto} {s : ByteArray} {n a b : Nat} {x : AV} (h : st[n]? = some (RX s a x 0 b)) (hx : x.old st.length = true) (code place : Nat) :
    CallR ap 35 [.mp n 0 0, .int .i64 (code : Nat), .int .i64 (place : Nat)] st = some (.ret (.tup []), st.set n (RX s a x code place)) := by
  have h2 := lx_set (rx_lt h) (RX s a x code b)
  rw [stencilref12_lexer_fail.call]
  refine ret_set0 ?_ rfl rfl (rx_old hx)
  rw [stencilref12_lexer_fail.b_eq]
  have e : decide ((((0 : Nat) : Int)) = 0) = true := rfl
  simp only [nkm, fam, rx_code h, Option.bind_some, asI, if_true, e, cond_true, rx_scode h, rx_sbad h2, List.set_set]

theorem rblank_spec (c : UInt8) (st : Sto) : CallR ap 53 [.int .u8 ((c.toNat : Nat) : Int)] st = some (.ret (.bool (blank c)), st) := by
  rw [stencilref12_blank.call]
  refine ret_keep ?_ rfl rfl (Keeps.refl _ _)
  rw [stencilref12_blank.b_eq]
  have e : ∀ k : UInt8, decide (((c.toNat : Nat) : Int) = ((k.toNat : Nat) : Int)) = (c == k) := fun k => by
    rw [Bool.eq_iff_iff, decide_eq_true_eq, beq_iff_eq]
    exact ⟨fun h => UInt8.toNat_inj.1 (by omega), fun h => by rw [h]⟩
  have e1 := e 32
  have e2 := e 9
  have e3 := e 10
  have e4 := e 13
  rw [show (((32 : UInt8).toNat : Nat) : Int) = 32 from rfl] at e1
  rw [show (((9 : UInt8).toNat : Nat) : Int) = 9 from rfl] at e2
  rw [show (((10 : UInt8).toNat : Nat) : Int) = 10 from rfl] at e3
  rw [show (((13 : UInt8).toNat : Nat) : Int) = 13 from rfl] at e4
  rw [e1, e2, e3, e4]
  unfold blank
  cases c == 32 <;> cases c == 9 <;> cases c == 10 <;> rfl

theorem rblanks_loop {s : ByteArray} (hs : s.size ≤ 65536) {n c b : Nat} {x : AV} (from_ : Nat) : ∀ (m a : Nat), a + m = s.size → from_ ≤ a → ∀ st : Sto, st[n]? = some (RX s a x c b) →
    stencilref12_lexer_blanks.p11000 (.mp n 0 0) (.int .i64 (from_ : Nat)) st = some ⟨.ret (.int .i64 ((a + bl (s.data.toList.drop a) - from_ : Nat) : Int)), none, st.set n (RX s (a + bl (s.data.toList.drop a)) x c b)⟩ := by
  have last : ∀ (a : Nat) (st : Sto), a ≤ s.size → from_ ≤ a → st[n]? = some (RX s a x c b) → stencilref12_lexer_blanks.p1100001 (.mp n 0 0) (.int .i64 (from_ : Nat)) false st = some ⟨.ret (.int .i64 ((a - from_ : Nat) : Int)), none, st⟩ := by
    intro a st ha hf h
    have e : IntKind.wrap .i64 (((a : Nat) : Int) - ((from_ : Nat) : Int)) = ((a - from_ : Nat) : Int) := w64 _ (by omega) (by omega)
    rw [stencilref12_lexer_blanks.p1100001_eq]
    simp only [cond_false, nkm, fam, rx_at h, Option.bind_some, asI, if_true, e]
  intro m
  induction m with
  | zero =>
    intro a hm hf st h
    have hlt : ¬ ((a : Int) < ((s.size : Nat) : Int)) := by omega
    rw [stencilref12_lexer_blanks.p11000_eq]
    simp only [nkm, fam, rx_s h, rx_at h, Option.bind_some, asS, asI, if_true, hlt, decide_false, cond_false, last a st (by omega) hf h]
    rw [drop_out (by omega), show a + bl ([] : List UInt8) = a from rfl, set_same h]
  | succ m ih =>
    intro a hm hf st h
    have hlt : ((a : Int) < ((s.size : Nat) : Int)) := by omega
    have hlt' : a < s.size := by omega
    obtain ⟨ch, _, h2, h3⟩ := drop_at hlt'
    rw [stencilref12_lexer_blanks.p11000_eq]
    simp only [nkm, fam, rx_s h, rx_at h, Option.bind_some, asS, asI, Go.St.asInt, if_true, hlt, decide_true, cond_true, idx_nat hlt', h2, rblank_spec, Out.on, asB]
    rw [h3]
    cases hbk : blank ch with
    | false =>
      rw [last a st (by omega) hf h]
      simp [bl, hbk, set_same h]
    | true =>
      have hw : IntKind.wrap .i64 ((a : Int) + 1) = ((a + 1 : Nat) : Int) := w64 _ (by omega) (by omega)
      have h' := lx_set (rx_lt h) (RX s (a + 1) x c b)
      rw [stencilref12_lexer_blanks.p1100001_eq]
      simp only [cond_true, nkm, fam, rx_at h, Option.bind_some, asI, if_true, hw, rx_sat h]
      rw [ih (a + 1) (by omega) (by omega) _ h', List.set_set]
      have : a + 1 + bl (s.data.toList.drop (a + 1)) = a + bl (ch :: s.data.toList.drop (a + 1)) := by
        simp [bl, hbk]
        omega
      rw [this]

theorem rblanks_spec {st : Sto} {s : ByteArray} {n a c b : Nat} {x : AV} (h : st[n]? = some (RX s a x c b)) (hx : x.old st.length = true) (ha : a ≤ s.size) (hs : s.size ≤ 65536) :
    CallR ap 33 [.mp n 0 0] st = some (.ret (.int .i64 ((bl (s.data.toList.drop a) : Nat) : Int)), st.set n (RX s (a + bl (s.data.toList.drop a)) x c b)) := by
  rw [stencilref12_lexer_blanks.call]
  have := rblanks_loop hs a (s.size - a) a (by omega) (Nat.le_refl _) st h
  rw [Nat.add_sub_cancel_left] at this
  refine ret_set0 ?_ rfl rfl (rx_old hx)
  rw [stencilref12_lexer_blanks.b_eq]
  simp only [nkm, fam, rx_at h, Option.bind_some, this]

theorem must_spec {st : Sto} {s : ByteArray} {n a b : Nat} {x : AV} (h : st[n]? = some (RX s a x 0 b)) (hx : x.old st.length = true) (ha : a ≤ s.size) (hs : s.size ≤ 65536) (w : ByteArray) (hw : w.size = 1) :
    CallR ap 34 [.mp n 0 0, .str w] st = some (.ret (.tup []), st.set n (if pre w.data.toList (s.data.toList.drop a) = true then RX s (a + 1) x 0 b else RX s a x 1202 a)) := by
  have hwr : IntKind.wrap .i64 ((a : Int) + 1) = ((a + 1 : Nat) : Int) := w64 _ (by omega) (by omega)
  have hf := rfail_spec h hx 1202 a
  rw [stencilref12_lexer_must.call]
  cases hp : pre w.data.toList (s.data.toList.drop a) with
  | true =>
    simp only [if_true]
    refine ret_set0 ?_ rfl rfl (rx_old hx)
    rw [stencilref12_lexer_must.b_eq, here_spec h ha hs w (by omega), hp]
    simp only [Option.bind_some, Out.on, asB, Bool.not_true, cond_false, nkm, fam, rx_at h, asI, if_true, hwr, rx_sat h]
  | false =>
    simp only [Bool.false_eq_true, if_false]
    refine ret_set0 ?_ rfl rfl (rx_old hx)
    rw [stencilref12_lexer_must.b_eq, here_spec h ha hs w (by omega), hp]
    simp only [Option.bind_some, Out.on, asB, Bool.not_false, cond_true, nkm, fam, rx_at h]
    rw [show ((1202 : Int)) = ((1202 : Nat) : Int) from rfl, hf]
    rfl

/-! ### Names -/
theorem word1 (c : UInt8) : wordB (mk [c]) 45 = letter c := by
  have : ∀ c : Fin 256, wordB (mk [UInt8.ofNat c.1]) 45 = letter (UInt8.ofNat c.1) := by decide +kernel
  have h := this ⟨c.toNat, c.toNat_lt⟩
  simpa using h
theorem word2 (c : UInt8) : wordB (mk [97, c]) 45 = inner c := by
  have : ∀ c : Fin 256, wordB (mk [97, UInt8.ofNat c.1]) 45 = inner (UInt8.ofNat c.1) := by decide +kernel
  have h := this ⟨c.toNat, c.toNat_lt⟩
  simpa using h
theorem letter_inner {c : UInt8} (h : letter c = true) : inner c = true := by unfold inner; rw [h]; rfl
theorem ext_one {s : ByteArray} {a : Nat} (h : a < s.size) {c : UInt8} (hc : s.data.toList.drop a = c :: s.data.toList.drop (a + 1)) : ByteArray.extract s a (a + 1) = mk [c] := by
  rw [← mk_data (ByteArray.extract s a (a + 1)), ext_list, hc, Nat.add_sub_cancel_left]
  rfl

theorem rname_loop {s : ByteArray} (hs : s.size ≤ 65536) {n c b : Nat} {x : AV} (from_ : Nat) : ∀ (m a : Nat), a + m = s.size → from_ ≤ a → ∀ st : Sto, st[n]? = some (RX s a x c b) →
    stencilref12_lexer_name.p11000 (.mp n 0 0) (.int .i64 (from_ : Nat)) st = stencilref12_lexer_name.p1100001 (.mp n 0 0) (.int .i64 (from_ : Nat)) false (st.set n (RX s (a + nmAt (decide (a = from_)) (s.data.toList.drop a)) x c b)) := by
  intro m
  induction m with
  | zero =>
    intro a hm hf st h
    have hlt : ¬ ((a : Int) < ((s.size : Nat) : Int)) := by omega
    rw [stencilref12_lexer_name.p11000_eq]
    simp only [nkm, fam, rx_s h, rx_at h, Option.bind_some, asS, asI, if_true, hlt, decide_false, cond_false]
    rw [drop_out (by omega)]
    simp only [nmAt, Nat.add_zero, set_same h]
  | succ m ih =>
    intro a hm hf st h
    have hlt : ((a : Int) < ((s.size : Nat) : Int)) := by omega
    have hlt' : a < s.size := by omega
    obtain ⟨ch, _, h2, h3⟩ := drop_at hlt'
    have hw : IntKind.wrap .i64 ((a : Int) + 1) = ((a + 1 : Nat) : Int) := w64 _ (by omega) (by omega)
    have h' := lx_set (rx_lt h) (RX s (a + 1) x c b)
    have nxt := ih (a + 1) (by omega) (by omega) _ h'
    rw [List.set_set, show decide (a + 1 = from_) = false from decide_eq_false (by omega)] at nxt
    have b1 : bnd s.size s.size (some (.int .i64 ((a + 1 : Nat) : Int))) = some (a + 1) := bnd_int (by omega)
    have b2 : bnd 0 (a + 1) (some (.int .i64 ((a : Nat) : Int))) = some a := bnd_int (by omega)
    have hex := ext_one hlt' h3
    have ha97 : (⟨#[97]⟩ : ByteArray) ++ mk [ch] = mk [97, ch] := by rw [show (⟨#[97]⟩ : ByteArray) = mk [97] from rfl, mk_app]; rfl
    have hz : ByteArray.size (⟨#[97]⟩ : ByteArray) + (mk [ch]).size ≤ 9223372036854775807 := by rw [mk_size, show ByteArray.size (⟨#[97]⟩ : ByteArray) = 1 from rfl]; simp
    have t1 := refTag_spec (mk [97, ch]) (by rw [mk_size]; simp) st
    have t2 := refTag_spec (mk [ch]) (by rw [mk_size]; simp) st
    rw [word2] at t1
    rw [word1] at t2
    have go : stencilref12_lexer_name.p1100001 (.mp n 0 0) (.int .i64 (from_ : Nat)) true st = stencilref12_lexer_name.p1100001 (.mp n 0 0) (.int .i64 (from_ : Nat)) false (st.set n (RX s (a + 1 + nmAt false (s.data.toList.drop (a + 1))) x c b)) := by
      rw [stencilref12_lexer_name.p1100001_eq]
      simp only [cond_true, nkm, fam, rx_at h, Option.bind_some, asI, if_true, hw, rx_sat h, nxt]
    have e1 : (((from_ : Nat) : Int) < ((a : Nat) : Int)) = (from_ < a) := propext ⟨fun h => by omega, fun h => by omega⟩
    rw [stencilref12_lexer_name.p11000_eq]
    simp only [nkm, fam, rx_s h, rx_at h, Option.bind_some, asS, asI, asB, if_true, hlt, decide_true, cond_true, hw, b1, b2, hex, ha97, hz, t1, t2, Out.on, e1]
    rw [h3]
    cases hi : inner ch with
    | false =>
      have hl : letter ch = false := by
        cases hl : letter ch with
        | false => rfl
        | true => rw [letter_inner hl] at hi; cases hi
      simp only [cond_false, nmAt, hl, hi, Bool.and_false, Bool.or_self, Bool.false_eq_true, if_false, Nat.add_zero, set_same h]
    | true =>
      by_cases hf2 : from_ < a
      · have hd : decide (a = from_) = false := decide_eq_false (by omega)
        simp only [cond_true, hf2, decide_true, go, nmAt, hd, hi, Bool.not_false, Bool.and_self, Bool.or_true, if_true, Nat.add_assoc]
      · have hd : decide (a = from_) = true := decide_eq_true (by omega)
        cases hl : letter ch with
        | false =>
          simp only [cond_true, hf2, decide_false, cond_false, hl, nmAt, hd, Bool.not_true, Bool.false_and, Bool.or_self, Bool.false_eq_true, if_false, Nat.add_zero, set_same h]
        | true =>
          simp only [cond_true, hf2, decide_false, cond_false, hl, go, nmAt, hd, Bool.true_or, if_true, Nat.add_assoc]

theorem rname_spec {st : Sto} {s : ByteArray} {n a b : Nat} {x : AV} (h : st[n]? = some (RX s a x 0 b)) (hx : x.old st.length = true) (ha : a ≤ s.size) (hs : s.size ≤ 65536) :
    CallR ap 32 [.mp n 0 0] st = some (.ret (.str (mk ((s.data.toList.drop a).take (nm (s.data.toList.drop a))))), st.set n (if badN (s.data.toList.drop a) = true then RX s (a + nm (s.data.toList.drop a)) x 1202 a else RX s (a + nm (s.data.toList.drop a)) x 0 b)) := by
  have hl := rname_loop hs (c := 0) a (s.size - a) a (by omega) (Nat.le_refl _) st h
  rw [show decide (a = a) = true from decide_eq_true rfl, nmAt_true] at hl
  have hle := nm_le (s.data.toList.drop a)
  rw [drop_len] at hle
  unfold badN
  obtain ⟨k, hk⟩ : ∃ k, k = nm (s.data.toList.drop a) := ⟨_, rfl⟩
  rw [← hk] at hl hle ⊢
  have h' := lx_set (rx_lt h) (RX s (a + k) x 0 b)
  have hf := rfail_spec h' (by rw [List.length_set]; exact hx) 1202 a
  rw [List.set_set] at hf
  have h'' := lx_set (rx_lt h) (RX s (a + k) x 1202 a)
  have hwd : IntKind.wrap .i64 (((a + k : Nat) : Int) - ((a : Nat) : Int)) = ((k : Nat) : Int) := w64 _ (by omega) (by omega)
  have b1 : bnd s.size s.size (some (.int .i64 ((a + k : Nat) : Int))) = some (a + k) := bnd_int (by omega)
  have b2 : bnd 0 (a + k) (some (.int .i64 ((a : Nat) : Int))) = some a := bnd_int (by omega)
  have ex : ByteArray.extract s a (a + k) = mk ((s.data.toList.drop a).take k) := by
    rw [← mk_data (ByteArray.extract s a (a + k)), ext_list, show a + k - a = k by omega]
  have fin : ∀ (c' b' : Nat), stencilref12_lexer_name.p11111 (.mp n 0 0) (.int .i64 (a : Nat)) (st.set n (RX s (a + k) x c' b')) = some ⟨.ret (.str (mk ((s.data.toList.drop a).take k))), none, st.set n (RX s (a + k) x c' b')⟩ := by
    intro c' b'
    have h0 := lx_set (rx_lt h) (RX s (a + k) x c' b')
    rw [stencilref12_lexer_name.p11111_eq]
    simp only [nkm, fam, rx_at h0, rx_s h0, Option.bind_some, asS, b1, b2, ex]
  rw [stencilref12_lexer_name.call]
  have start : stencilref12_lexer_name.b (.mp n 0 0) st = stencilref12_lexer_name.p1100001 (.mp n 0 0) (.int .i64 (a : Nat)) false (st.set n (RX s (a + k) x 0 b)) := by
    rw [stencilref12_lexer_name.b_eq]
    simp only [nkm, fam, rx_at h, Option.bind_some, hl]
  refine ret_set0 ?_ rfl rfl (by split <;> exact rx_old hx)
  rw [start, stencilref12_lexer_name.p1100001_eq]
  by_cases h0 : k = 0
  · have e : (((a + k : Nat) : Int) = ((a : Nat) : Int)) := by omega
    have e1 : ¬ ((32 : Int) < ((k : Nat) : Int)) := by omega
    rw [if_pos (by simp [h0])]
    simp only [cond_false, nkm, fam, rx_at h', Option.bind_some, asI, if_true, e, decide_true, cond_true]
    rw [show ((1202 : Int)) = ((1202 : Nat) : Int) from rfl, hf]
    simp only [Option.bind_some, Out.on]
    rw [stencilref12_lexer_name.p1111_eq]
    simp only [nkm, fam, rx_at h'', Option.bind_some, asI, if_true, hwd, e1, decide_false, cond_false, fin]
  · have e : ¬ (((a + k : Nat) : Int) = ((a : Nat) : Int)) := by omega
    simp only [cond_false, nkm, fam, rx_at h', Option.bind_some, asI, if_true, e, decide_false]
    rw [stencilref12_lexer_name.p1111_eq]
    by_cases h1 : 32 < k
    · have e1 : ((32 : Int) < ((k : Nat) : Int)) := by omega
      simp only [nkm, fam, rx_at h', Option.bind_some, asI, if_true, hwd, e1, decide_true, cond_true]
      rw [show ((1202 : Int)) = ((1202 : Nat) : Int) from rfl, hf]
      simp only [Option.bind_some, Out.on, fin, h1, decide_true, Bool.or_true, if_true]
    · have e1 : ¬ ((32 : Int) < ((k : Nat) : Int)) := by omega
      simp only [nkm, fam, rx_at h', Option.bind_some, asI, if_true, hwd, e1, decide_false, cond_false, fin, h0, h1, Bool.or_self, Bool.false_eq_true, if_false]

/-! ### Plain text -/
theorem rplain_spec {st : Sto} {s : ByteArray} {n a b : Nat} {x : AV} (h : st[n]? = some (RX s a x 0 b)) (hx : x.old st.length = true) (f : Nat) (hf : f ≤ 65536) (sub : ByteArray) (hsub : sub.size ≤ 65536) (place : Nat) (bound : Bool) :
    ∃ y, CallR ap 37 [.mp n 0 0, .int .i64 (f : Nat), .str sub, .int .i64 (place : Nat), .bool (!bound)] st = some (.ret (.str (mk y)), match plM sub.data.toList f place bound with
      | .error e => st.set n (RX s a x e.1 e.2)
      | .ok _ => st) ∧ ∀ z, plM sub.data.toList f place bound = .ok z → y = z := by
  have hp := plainRef sub (by omega) st
  rw [size_list] at hp
  unfold plM
  obtain ⟨hk, hy⟩ := pl_le sub.data.toList.length sub.data.toList 0 [] (Nat.le_refl _)
  cases hr : pl sub.data.toList.length sub.data.toList 0 [] with
  | mk r k =>
    rw [hr] at hp hk hy
    cases r with
    | none =>
      simp only [← size_list] at hk
      refine ⟨[], ?_, fun z hz => by simp at hz⟩
      have hw : IntKind.wrap .i64 (((f : Nat) : Int) + ((k : Nat) : Int)) = ((f + k : Nat) : Int) := w64 _ (by omega) (by omega)
      have hfl := rfail_spec h hx 1204 (f + k)
      have hlast : stencilref12_lexer_plain.p111 (.mp n 0 0) ((place : Nat) : Int) (!bound) (.str ⟨#[]⟩) (st.set n (RX s a x 1204 (f + k))) = some ⟨.ret (.str (mk [])), none, st.set n (RX s a x 1204 (f + k))⟩ := by
        rw [stencilref12_lexer_plain.p111_eq]
        have e : decide ((4096 : Int) < ((ByteArray.size (⟨#[]⟩ : ByteArray) : Nat) : Int)) = false := rfl
        cases bound with
        | true =>
          simp only [Bool.not_true, cond_false]
          rw [stencilref12_lexer_plain.p11101_eq]
          simp only [cond_false, stencilref12_lexer_plain.p1111_eq]
          rfl
        | false =>
          simp only [Bool.not_false, cond_true, asS, Option.bind_some, e]
          rw [stencilref12_lexer_plain.p11101_eq]
          simp only [cond_false, stencilref12_lexer_plain.p1111_eq]
          rfl
      rw [stencilref12_lexer_plain.call]
      refine ret_set0 ?_ rfl rfl (rx_old hx)
      rw [stencilref12_lexer_plain.b_eq]
      simp only [hp, plOut, Option.bind_some, Out.on, ext, List.getElem?_cons_zero, List.getElem?_cons_succ, asI, if_true, show decide ((400 : Int) = 0) = false from rfl, Bool.not_false, cond_true, hw]
      rw [show ((1204 : Int)) = ((1204 : Nat) : Int) from rfl, hfl]
      simp only [Option.bind_some, Out.on, hlast]
    | some t =>
      have ht := hy t rfl
      rw [← size_list] at ht
      simp only [List.length_nil, Nat.zero_add] at ht
      have hms : (mk t).size = t.length := mk_size t
      have e : ((4096 : Int) < (((mk t).size : Nat) : Int)) = (4096 < t.length) := propext ⟨fun h => by omega, fun h => by omega⟩
      have hfl := rfail_spec h hx 1201 place
      refine ⟨t, ?_, fun z hz => ?_⟩
      · rw [stencilref12_lexer_plain.call]
        have start : stencilref12_lexer_plain.b (.mp n 0 0) ((f : Nat) : Int) sub ((place : Nat) : Int) (!bound) st = stencilref12_lexer_plain.p111 (.mp n 0 0) ((place : Nat) : Int) (!bound) (.str (mk t)) st := by
          rw [stencilref12_lexer_plain.b_eq]
          simp only [hp, plOut, Option.bind_some, Out.on, ext, List.getElem?_cons_zero, List.getElem?_cons_succ, asI, if_true, decide_true, Bool.not_true, cond_false]
        by_cases hc : bound = false ∧ 4096 < t.length
        · simp only [hc, and_self, if_true]
          obtain ⟨rfl, hc2⟩ := hc
          refine ret_set0 ?_ rfl rfl (rx_old hx)
          rw [start, stencilref12_lexer_plain.p111_eq]
          simp only [Bool.not_false, cond_true, asS, Option.bind_some, e, hc2, decide_true]
          rw [stencilref12_lexer_plain.p11101_eq]
          simp only [cond_true]
          rw [show ((1201 : Int)) = ((1201 : Nat) : Int) from rfl, hfl]
          simp only [Option.bind_some, Out.on, stencilref12_lexer_plain.p1111_eq]
        · simp only [if_neg hc]
          refine ret_keep ?_ rfl rfl (Keeps.refl _ _)
          rw [start, stencilref12_lexer_plain.p111_eq]
          cases bound with
          | true =>
            simp only [Bool.not_true, cond_false]
            rw [stencilref12_lexer_plain.p11101_eq]
            simp only [cond_false, stencilref12_lexer_plain.p1111_eq]
          | false =>
            have : ¬ 4096 < t.length := fun h => hc ⟨rfl, h⟩
            simp only [Bool.not_false, cond_true, asS, Option.bind_some, e, this, decide_false]
            rw [stencilref12_lexer_plain.p11101_eq]
            simp only [cond_false, stencilref12_lexer_plain.p1111_eq]
      · simp only at hz
        split at hz
        · cases hz
        · cases hz
          rfl
end Go.Proofs.YtigdijdpggjpiaaDoor
