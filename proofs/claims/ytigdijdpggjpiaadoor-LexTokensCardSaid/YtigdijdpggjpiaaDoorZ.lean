/- The lexer's walk: text and holes. -/
import Derived.Test.YtigdijdpggjpiaaDoorY
namespace Go.Proofs.YtigdijdpggjpiaaDoor
open Go.St Go.Lib
set_option linter.unusedVariables false
set_option linter.unusedSimpArgs false

theorem index_prim (w sub : ByteArray) (st : Sto) (h : w.size ≤ 65536) : primA .index [.str w, .str sub] st = some (.ret (.int .i64 (Lib.index w.data.toList sub.data.toList)), st) := by
  unfold primA
  exact if_pos (by omega)
theorem inv_yl (i : Nat) (l : List AV) (st : Sto) : invokeA ap (CallR ap) (.yl i) l st = CallR ap rnd (.yl i :: l) st := rfl

def delims : AV := .is [.str ⟨#[60]⟩, .str ⟨#[123, 123]⟩] 2 .full

theorem ext_sz (s : ByteArray) (i j : Nat) (hij : i ≤ j) (hj : j ≤ s.size) : (ByteArray.extract s i j).size = j - i := by simp; omega

section
variable {n : Nat} {s : ByteArray} {st : Sto} {a c b : Nat} {ts : List Tk}

theorem text_round (h : st[n]? = some (LX s a c b)) (hs : s.size ≤ 65536) (y : AV) {to k : Nat} (hk : k < 2) {w : ByteArray} (hw : ia 1 delims (.int .i64 (k : Int)) = some (.ip [.str w])) (hw0 : w.data.toList ≠ []) (hat : a ≤ to) (hto : to ≤ s.size) :
    lex_lexer_text.p1110100 (.mp n 0 0) y (.int .i64 (a : Nat)) ((to : Nat) : Int) delims 2 ((k : Nat) : Int) st = lex_lexer_text.p1110100 (.mp n 0 0) y (.int .i64 (a : Nat)) ((a + ixN ((s.data.toList.drop a).take (to - a)) w.data.toList : Nat) : Int) delims 2 ((k + 1 : Nat) : Int) st := by
  have hk2 : ((k : Int) < 2) := by omega
  have b1 : bnd s.size s.size (some (.int .i64 ((to : Nat) : Int))) = some to := bnd_int hto
  have b2 : bnd 0 to (some (.int .i64 ((a : Nat) : Int))) = some a := bnd_int hat
  have hsz := ext_sz s a to hat hto
  have hwk : IntKind.wrap .i64 ((k : Int) + 1) = ((k + 1 : Nat) : Int) := w64 _ (by omega) (by omega)
  have hld : ld false 1 st (.ip [.str w]) = some (.str w) := rfl
  have hle := ixN_le ((s.data.toList.drop a).take (to - a)) w.data.toList hw0
  rw [List.length_take, drop_len] at hle
  rw [lex_lexer_text.p1110100_eq]
  simp only [hk2, decide_true, cond_true, hw, Option.bind_some, hld, nkm, fam, lx_s h, asS, b1, b2, index_prim _ _ _ (show (ByteArray.extract s a to).size ≤ 65536 by omega), ext_list, Out.on, asI, if_true]
  obtain ⟨i, hi⟩ : ∃ i, i = Lib.index ((s.data.toList.drop a).take (to - a)) w.data.toList := ⟨_, rfl⟩
  unfold ixN at hle ⊢
  rw [← hi] at hle ⊢
  by_cases hneg : i < 0
  · have h0 : ¬ (0 ≤ i) := by omega
    simp only [h0, decide_false, cond_false, hneg, if_true]
    rw [lex_lexer_text.p1110100111_eq, hwk]
    rw [List.length_take, drop_len, show a + min (to - a) (s.size - a) = to by omega]
  · have h0 : 0 ≤ i := by omega
    rw [if_neg hneg] at hle
    have hwi : IntKind.wrap .i64 (((a : Nat) : Int) + i) = ((a + i.toNat : Nat) : Int) := w64 _ (by omega) (by omega)
    simp only [h0, decide_true, cond_true, hneg, if_false, hwi]
    rw [lex_lexer_text.p1110100111_eq, hwk]

theorem text_walk (h : LS n s st a 0 0 ts) (hs : s.size ≤ 65536) (hts : ts.length ≤ 1000000) (ha : a ≤ s.size) :
    Post n s st ts (textM s.data.toList a) (CallR ap 27 [.mp n 0 0, .yl (n + 3)] st) := by
  rw [lex_lexer_text.call]
  refine post_of h ?_
  have ht := txN_le (s.data.toList.drop a)
  rw [drop_len] at ht
  have e1 := ixN_le (s.data.toList.drop a) [60] (by simp)
  rw [drop_len] at e1
  have r0 := text_round h.lx hs (.yl (n + 3)) (k := 0) (w := ⟨#[60]⟩) (by decide) rfl (by simp) ha (Nat.le_refl _)
  rw [show (s.data.toList.drop a).take (s.size - a) = s.data.toList.drop a from List.take_of_length_le (by rw [drop_len]; omega)] at r0
  have r1 := text_round h.lx hs (.yl (n + 3)) (k := 1) (to := a + ixN (s.data.toList.drop a) [60]) (w := ⟨#[123, 123]⟩) (by decide) rfl (by simp) (by omega) (by omega)
  rw [Nat.add_sub_cancel_left, show (ByteArray.mk #[123, 123]).data.toList = [123, 123] from rfl, ← txN_eq] at r1
  have hlit : litS false 2 1 (fillA (fun i => some (i * 1, 1)) [.str ⟨#[]⟩, .str ⟨#[]⟩] [(0, (.str ⟨#[60]⟩)), (1, (.str ⟨#[123, 123]⟩))]) st = some (delims, st) := rfl
  have hlen : lenL delims = some 2 := rfl
  have start : lex_lexer_text.b (.mp n 0 0) (.yl (n + 3)) st = lex_lexer_text.p1110100 (.mp n 0 0) (.yl (n + 3)) (.int .i64 (a : Nat)) ((a + txN (s.data.toList.drop a) : Nat) : Int) delims 2 2 st := by
    rw [lex_lexer_text.b_eq]
    simp only [nkm, fam, lx_at h.lx, lx_s h.lx, Option.bind_some, asS, hlit, hlen]
    exact r0.trans r1
  rw [start, lex_lexer_text.p1110100_eq]
  have hp := plain_spec h.lx hs (f := a) (t := a + txN (s.data.toList.drop a)) (by omega) (by omega) a false
  rw [Nat.add_sub_cancel_left] at hp
  simp only [show ¬ ((2 : Int) < 2) by decide, decide_false, cond_false, hp, Option.bind_some]
  unfold textM
  cases hr : plM ((s.data.toList.drop a).take (txN (s.data.toList.drop a))) a a false with
  | error e =>
    have h1 := h.move a e.1 e.2
    simp only [hr, Out.on, badName, ext, List.getElem?_cons_zero, List.getElem?_cons_succ, Option.bind_some, nkm, fam, lx_sat h1.lx, guardT, gOn, cond_false, List.set_set]
    exact ⟨_, _, _, rfl, h.move _ _ _, Keeps.set (Nat.le_refl _)⟩
  | ok x =>
    have h1 := h.move (a + txN (s.data.toList.drop a)) 0 0
    obtain ⟨st', y1, y2, y3⟩ := yield_spec h1 hts ⟨1, [], x, a⟩
    have hag : aggA (fillA (fun i => ([(0, 1), (1, 1), (2, 1), (3, 1)] : List (Nat × Nat))[i]?) [.int .i64 0, .str ⟨#[]⟩, .str ⟨#[]⟩, .int .i64 0] [(0, (.int .i64 1)), (2, .str (mk x)), (3, .int .i64 ((a : Nat) : Int))]) = some (.agg (tcell ⟨1, [], x, a⟩)) := rfl
    simp only [hr, Out.on, ext, List.getElem?_cons_zero, List.getElem?_cons_succ, Option.bind_some, nkm, fam, lx_sat h.lx, guardT, gOn, cond_true, hag, inv_yl, y1, asB]
    exact ⟨_, rfl, y2, (Keeps.set (Nat.le_refl _)).trans y3⟩

theorem hole_walk (h : LS n s st a 0 0 ts) (hs : s.size ≤ 65536) (hts : ts.length ≤ 1000000) (hp : pre [123, 123] (s.data.toList.drop a) = true) :
    Post n s st ts (holeM s.data.toList a) (CallR ap 29 [.mp n 0 0, .yl (n + 3)] st) := by
  rw [lex_lexer_hole.call]
  refine post_of h ?_
  have ha := pre_drop hp
  simp only [List.length_cons, List.length_nil, ← size_list, List.cons_ne_nil, or_false] at ha
  have hw2 : IntKind.wrap .i64 (((a : Nat) : Int) + 2) = ((a + 2 : Nat) : Int) := w64 _ (by omega) (by omega)
  have b1 : bnd 0 s.size (some (.int .i64 ((a + 2 : Nat) : Int))) = some (a + 2) := bnd_int (by omega)
  have hsz := ext_sz s (a + 2) s.size (by omega) (Nat.le_refl _)
  have e5 : (ByteArray.mk #[125, 125]).data.toList = [125, 125] := rfl
  have hf := fail_spec h.lx 1205 a
  rw [lex_lexer_hole.b_eq]
  simp only [nkm, fam, lx_at h.lx, lx_s h.lx, Option.bind_some, asI, asS, if_true, hw2, b1, index_prim _ _ _ (show (ByteArray.extract s (a + 2) s.size).size ≤ 65536 by omega), drop_list, e5, Out.on]
  unfold holeM
  have hlt := @index_lt (s.data.toList.drop (a + 2)) [125, 125]
  obtain ⟨i, hi⟩ : ∃ i, i = Lib.index (s.data.toList.drop (a + 2)) [125, 125] := ⟨_, rfl⟩
  rw [← hi] at hlt ⊢
  by_cases hneg : i < 0
  · simp only [hneg, decide_true, cond_true, if_true]
    rw [show ((1205 : Int)) = ((1205 : Nat) : Int) from rfl, hf]
    exact ⟨_, _, _, rfl, h.move _ _ _, Keeps.set (Nat.le_refl _)⟩
  · have hl := hlt hneg
    rw [drop_len] at hl
    simp only [List.length_cons, List.length_nil] at hl
    obtain ⟨j, rfl⟩ : ∃ j : Nat, i = (j : Int) := ⟨i.toNat, by omega⟩
    rw [Int.toNat_natCast] at *
    have w1 : IntKind.wrap .i64 (((a : Nat) : Int) + ((j : Nat) : Int)) = ((a + j : Nat) : Int) := w64 _ (by omega) (by omega)
    have w2 : IntKind.wrap .i64 (((a + j : Nat) : Int) + 4) = ((a + j + 4 : Nat) : Int) := w64 _ (by omega) (by omega)
    have w3 : IntKind.wrap .i64 (((a + 2 : Nat) : Int) + ((j : Nat) : Int)) = ((a + 2 + j : Nat) : Int) := w64 _ (by omega) (by omega)
    have h1 := h.move (a + j + 4) 0 0
    have b2 : bnd s.size s.size (some (.int .i64 ((a + 2 + j : Nat) : Int))) = some (a + 2 + j) := bnd_int (by omega)
    have b3 : bnd 0 (a + 2 + j) (some (.int .i64 ((a + 2 : Nat) : Int))) = some (a + 2) := bnd_int (by omega)
    have ex : ByteArray.extract s (a + 2) (a + 2 + j) = mk ((s.data.toList.drop (a + 2)).take j) := by
      rw [← mk_data (ByteArray.extract s (a + 2) (a + 2 + j)), ext_list, show a + 2 + j - (a + 2) = j by omega]
    obtain ⟨st', y1, y2, y3⟩ := yield_spec h1 hts ⟨2, [], (s.data.toList.drop (a + 2)).take j, a⟩
    have hag : aggA (fillA (fun i => ([(0, 1), (1, 1), (2, 1), (3, 1)] : List (Nat × Nat))[i]?) [.int .i64 0, .str ⟨#[]⟩, .str ⟨#[]⟩, .int .i64 0] [(0, (.int .i64 2)), (2, .str (mk ((s.data.toList.drop (a + 2)).take j))), (3, .int .i64 ((a : Nat) : Int))]) = some (.agg (tcell ⟨2, [], (s.data.toList.drop (a + 2)).take j, a⟩)) := rfl
    simp only [hneg, decide_false, cond_false, if_false, w1, w2, w3, lx_sat h.lx, Option.bind_some, lx_s h1.lx, hw2, b2, b3, ex, hag, inv_yl, y1]
    exact ⟨_, rfl, y2, (Keeps.set (Nat.le_refl _)).trans y3⟩
end
end Go.Proofs.YtigdijdpggjpiaaDoor
