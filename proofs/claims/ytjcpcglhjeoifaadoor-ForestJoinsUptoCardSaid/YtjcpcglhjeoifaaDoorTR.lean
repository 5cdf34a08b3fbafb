/- Forests as the document writes them. -/
import Derived.Test.YtjcpcglhjeoifaaDoorTH
namespace Go.Proofs.YtjcpcglhjeoifaaDoor
open Go.St Go.Lib
set_option linter.unusedVariables false
set_option linter.unusedSimpArgs false

theorem bufA_add2 {n : Nat} {st : Sto} {x : AV} {acc new : List UInt8} {str : Bool} {y : AV} (h : BufA n st x acc) (hn : n ≤ st.length) (hy : tailOf str 1 st y = some (bytesL new, new.length)) (hl : acc.length + new.length ≤ 140737488355328) :
    ∃ x' st', appL false str 1 1 x y st = some (x', st') ∧ BufA n st' x' (acc ++ new) ∧ Keeps n st st' ∧ (st.length ≤ st'.length) ∧ ∀ (j : Nat) (o : Ob), st[j]? = some o → (∀ g, o ≠ .tip g) → st'[j]? = some o := by
  have hroom : ∀ k, k ≤ acc.length + new.length → room 1 k = true := fun k hk => by simp [room]; omega
  unfold appL
  simp only [hy, Option.bind_some]
  rcases h with ⟨rfl, rfl⟩ | ⟨i, g, hi, rfl, hst⟩
  · by_cases h0 : new.length = 0
    · have : new = [] := List.eq_nil_of_length_eq_zero h0
      subst this
      exact ⟨_, _, rfl, .inl ⟨rfl, rfl⟩, Keeps.refl n st, Nat.le_refl _, fun _ _ h _ => h⟩
    · simp only [h0, if_false, hroom new.length (by simp), if_true, Bool.false_eq_true]
      exact ⟨_, _, rfl, .inr ⟨st.length, 0, hn, by simp, by simp⟩, Keeps.app hn, by simp, fun j o h _ => by
        rw [List.getElem?_append_left (List.getElem?_eq_some_iff.1 h).1]; exact h⟩
  · have hlen : (bytesL acc).length = acc.length * 1 := by simp [bytesL]
    simp only [hlen, true_and, hroom _ (Nat.le_refl _), if_true, hst]
    refine ⟨_, _, rfl, .inr ⟨i, g + 1, hi, by simp [bytesL], ?_⟩, Keeps.set hi, by simp, fun j o h ho => ?_⟩
    · rw [List.getElem?_set_self (List.getElem?_eq_some_iff.1 hst).1]
    · by_cases hij : i = j
      · subst hij
        rw [hst] at h
        cases h
        exact absurd rfl (ho g)
      · rw [List.getElem?_set_ne hij]; exact h

/-- Bytes that were handed back. -/
def Fin (y : AV) (acc : List UInt8) : Prop := (y = .nils ∧ acc = []) ∨ y = .is (bytesL acc) acc.length .no

theorem Fin.tail {y : AV} {acc : List UInt8} (h : Fin y acc) (st : Sto) : tailOf false 1 st y = some (bytesL acc, acc.length) := by
  rcases h with ⟨rfl, rfl⟩ | rfl
  · rfl
  · simp [tailOf, rowOf, bytesL]
theorem Fin.text {y : AV} {acc : List UInt8} (h : Fin y acc) (st : Sto) : toText st y = some (mk acc) := by
  rcases h with ⟨rfl, rfl⟩ | rfl
  · rfl
  · have hlen : (bytesL acc).length = acc.length * 1 := by simp [bytesL]
    simp only [toText, rowOf, hlen, if_true, Option.bind_some, textOf_bytesL]
    rfl

theorem strips_bytesL (n : Nat) (l : List UInt8) : strips n (bytesL l) = bytesL l := by
  induction l with
  | nil => rfl
  | cons b r ih =>
    show _ :: strips n (bytesL r) = _
    rw [ih]
    rfl
theorem olds_bytesL (n : Nat) (l : List UInt8) : olds n (bytesL l) = true := by
  induction l with
  | nil => rfl
  | cons b r ih =>
    show (true && olds n (bytesL r)) = _
    rw [ih]
    rfl

theorem gc_strip {x : AV} {st st' : Sto} (ho : (x.strip st.length).old st.length = true) (hk : Keeps st.length st st') : gc st (.ret x, st') = (.ret (x.strip st.length), st) := by
  have hst : st'.take st.length = st := by
    apply List.ext_getElem?
    intro i
    rw [List.getElem?_take]
    split
    · rename_i hi; exact hk.at_ i hi
    · rename_i hi; rw [List.getElem?_eq_none (by omega)]
  unfold gc
  rw [if_pos ⟨by simp only [Out.val]; exact ho, hk.len, fun i hi => .inl (hk.at_ i hi)⟩]
  simp only [Out.map, hst]

theorem buf_fin {st st' : Sto} {x : AV} {acc : List UInt8} (h : BufA st.length st' x acc) (hk : Keeps st.length st st') : ∃ y, gc st (.ret x, st') = (.ret y, st) ∧ Fin y acc := by
  rcases h with ⟨rfl, rfl⟩ | ⟨i, g, hi, rfl, hst⟩
  · exact ⟨_, gc_keep rfl rfl hk, .inl ⟨rfl, rfl⟩⟩
  · have hs : (AV.is (bytesL acc) acc.length (.tip i g 1)).strip st.length = .is (bytesL acc) acc.length .no := by
      have : ¬ i < st.length := by omega
      simp only [AV.strip, strips_bytesL, Tok.strip, this, if_false]
    refine ⟨_, gc_strip ?_ hk, .inr hs⟩
    rw [hs]
    simp only [AV.old, olds_bytesL, Tok.old, Bool.and_self]

theorem lit_two (st : Sto) (a b : UInt8) : litS false 2 1 (fillA (fun i => some (i * 1, 1)) [.int .u8 0, .int .u8 0] [(0, (.int .u8 ((a.toNat : Nat) : Int))), (1, (.int .u8 ((b.toNat : Nat) : Int)))]) st = some (.is (bytesL [a, b]) 2 .full, st) := rfl
theorem tail_two (st : Sto) (a b : UInt8) : tailOf false 1 st (.is (bytesL [a, b]) 2 .full) = some (bytesL [a, b], [a, b].length) := rfl

open Classical in
theorem refHtml_attrs {tag text : ByteArray} {a k v : AV} {ats : List (ByteArray × ByteArray)} (ha : AttV ats a) (hs : asz ats ≤ 1050000) (id : Nat) (i : Int) (nn : Nat) :
    ∀ (suf pre : List (ByteArray × ByteArray)), ats = pre ++ suf → ∀ (st : Sto) (x : AV) (acc : List UInt8), nn ≤ st.length → st[id]? = some (.cells 0 [.str tag, .str text, a, k] 0) → BufA nn st x acc → acc.length + 8 * asz suf ≤ 70368744177664 →
      ∃ x' st', stencilref7_html.p1101001001110100 v x i id ((pre.length : Nat) : Int) st = stencilref7_html.p1101001001110100 v x' i id ((ats.length : Nat) : Int) st' ∧
        BufA nn st' x' (acc ++ hbA suf) ∧ Keeps nn st st' ∧ st'[id]? = some (.cells 0 [.str tag, .str text, a, k] 0) := by
  intro suf
  induction suf with
  | nil =>
    intro pre hp st x acc hn hg hx hl
    rw [List.append_nil] at hp
    subst hp
    exact ⟨x, st, rfl, by rw [hbA, List.append_nil]; exact hx, Keeps.refl _ _, hg⟩
  | cons y r ih =>
    intro pre hp st x acc hn hg hx hl
    subst hp
    have hlen : (pre ++ y :: r).length ≤ 525000 := by have := asz_len (pre ++ y :: r); omega
    have hy := asz_mem (ats := pre ++ y :: r) (x := y) (by simp)
    have hlt : (((pre.length : Nat) : Int) < (((pre ++ y :: r).length : Nat) : Int)) := by simp; omega
    have hw : IntKind.wrap .i64 (((pre.length : Nat) : Int) + 1) = (((pre ++ [y]).length : Nat) : Int) := by
      rw [w64 (pre.length + 1) (by omega) (by simp at hlen ⊢; omega)]
      simp
    have he := esc_len true y.2.data.toList
    have h3 := size_list y.2
    have h4 := size_list y.1
    simp only [asz] at hl
    have ld2 : ∀ s : Sto, s[id]? = some (.cells 0 [.str tag, .str text, a, k] 0) → ld false 1 s (.mp id 0 2) = some a := fun s h => m_get h rfl
    have nt : ∀ g, (Ob.cells 0 [AV.str tag, .str text, a, k] 0) ≠ .tip g := fun g h => by cases h
    -- ' '
    obtain ⟨x1, s1, p1, p2, p3, p4, p5⟩ := bufA_add2 (str := false) hx hn (tail_byte 32 st) (by simp only [List.length_cons, List.length_nil]; omega)
    have g1 := p5 _ _ hg nt
    -- the name
    obtain ⟨x2, s2, q1, q2, q3, q4, q5⟩ := bufA_add2 (str := true) p2 (Nat.le_trans hn p4) (tail_str y.1 s1) (by simp only [List.length_append, List.length_cons, List.length_nil]; omega)
    have g2 := q5 _ _ g1 nt
    -- '="'
    obtain ⟨x3, s3, r1, r2, r3, r4, r5⟩ := bufA_add2 (str := false) q2 (Nat.le_trans hn (Nat.le_trans p4 q4)) (tail_two s2 61 34) (by simp only [List.length_append, List.length_cons, List.length_nil]; omega)
    have g3 := r5 _ _ g2 nt
    -- the value
    obtain ⟨x4, s4, t1, t2, t3, t4, t5⟩ := bufA_add2 (str := true) r2 (Nat.le_trans hn (Nat.le_trans p4 (Nat.le_trans q4 r4))) (tail_str (mk (esc true y.2.data.toList)) s3) (by
      simp only [List.length_append, List.length_cons, List.length_nil]
      have : (mk (esc true y.2.data.toList)).data.toList = esc true y.2.data.toList := by simp [mk]
      rw [this]
      omega)
    have g4 := t5 _ _ g3 nt
    have hmk : (mk (esc true y.2.data.toList)).data.toList = esc true y.2.data.toList := by simp [mk]
    rw [hmk] at t2
    -- '"'
    obtain ⟨x5, s5, u1, u2, u3, u4, u5⟩ := bufA_add2 (str := false) t2 (Nat.le_trans hn (Nat.le_trans p4 (Nat.le_trans q4 (Nat.le_trans r4 t4)))) (tail_byte 34 s4) (by simp only [List.length_append, List.length_cons, List.length_nil]; omega)
    have g5 := u5 _ _ g4 nt
    obtain ⟨x', st', h1, h2, h3', h4'⟩ := ih (pre ++ [y]) (by simp) s5 x5 _ (Nat.le_trans hn (Nat.le_trans p4 (Nat.le_trans q4 (Nat.le_trans r4 (Nat.le_trans t4 u4))))) g5 u2 (by simp only [List.length_append, List.length_cons, List.length_nil]; omega)
    refine ⟨x', st', ?_, ?_, p3.trans (q3.trans (r3.trans (t3.trans (u3.trans h3')))), h4'⟩
    · rw [stencilref7_html.p1101001001110100_eq]
      have c32 : (AV.int .u8 32) = .int .u8 (((32 : UInt8).toNat : Nat) : Int) := rfl
      have c34 : (AV.int .u8 34) = .int .u8 (((34 : UInt8).toNat : Nat) : Int) := rfl
      have c61 : (AV.int .u8 61) = .int .u8 (((61 : UInt8).toNat : Nat) : Int) := rfl
      simp only [ld2 st hg, Option.bind_some, ha.len, hlt, decide_true, cond_true, c32, c34, c61, lit_byte (.int .u8 (((32 : UInt8).toNat : Nat) : Int)) rfl, p1, ld2 s1 g1, if_true, attr_at ha rfl, g0, Go.Proofs.YtjcpcglhjeoifaaDoor.g1, l1, q1, lit_two, r1, ld2 s3 g3, ld2 s2 g2, attrRef y.2 (by omega), Out.on, t1, lit_byte (.int .u8 (((34 : UInt8).toNat : Nat) : Int)) rfl, u1, hw]
      exact h1
    · have : acc ++ hbA (y :: r) = ((((acc ++ [32]) ++ y.1.data.toList) ++ [61, 34]) ++ esc true y.2.data.toList) ++ [34] ++ hbA r := by simp [hbA]
      rw [this]
      exact h2

def RefHtmlOk (ts : Fo) : Prop := ∀ (row : List AV) (n i : Nat) (tok : Tok) (st : Sto) (nn : Nat) (x : AV) (acc : List UInt8), Row ts (row.drop (i * 4)) → n = i + ts.len → ts.sz ≤ 1050000 → n ≤ 1050000 → acc.length + 8 * ts.sz ≤ 70368744177664 → nn ≤ st.length → BufA nn st x acc →
  ∃ x' st', stencilref7_html.p110100 (.is row n tok) x ((i : Nat) : Int) st = some ⟨.ret x', none, st'⟩ ∧ BufA nn st' x' (acc ++ hb ts) ∧ Keeps nn st st'

theorem refHtml_of {ts : Fo} (H : RefHtmlOk ts) {v : AV} (hv : FoV ts v) (hs : ts.sz ≤ 1050000) (st : Sto) : ∃ y, CallR ap 30 [v] st = some (.ret y, st) ∧ Fin y (hb ts) := by
  suffices h : ∃ x' st', stencilref7_html.b v st = some ⟨.ret x', none, st'⟩ ∧ BufA st.length st' x' (hb ts) ∧ Keeps st.length st st' by
    obtain ⟨x', st', h1, h2, h3⟩ := h
    obtain ⟨y, h4, h5⟩ := buf_fin h2 h3
    refine ⟨y, ?_, h5⟩
    rw [stencilref7_html.call, h1]
    simp only [Option.bind_some, h4]
  rw [stencilref7_html.b_eq]
  rcases hv with ⟨h0, rfl⟩ | ⟨row, tok, rfl, hr⟩
  · obtain rfl := len_nil h0
    rw [stencilref7_html.p110100_eq]
    exact ⟨.nils, st, by simp [lenL], .inl ⟨rfl, rfl⟩, Keeps.refl _ _⟩
  · have hl := len_sz ts
    have := H row ts.len 0 tok st st.length .nils [] (by simpa using hr) (by omega) hs (by omega) (by simp only [List.length_nil]; omega) (Nat.le_refl _) (.inl ⟨rfl, rfl⟩)
    simpa using this

open Classical in
theorem refHtml_all (ts : Fo) : RefHtmlOk ts := by
  induction ts with
  | nil =>
    intro row n i tok st nn x acc hr hn hs hb hl hnn hx
    simp only [Fo.len] at hn
    rw [stencilref7_html.p110100_eq]
    have hlt : ¬ (((i : Nat) : Int) < ((n : Nat) : Int)) := by omega
    refine ⟨x, st, ?_, by rw [Go.Proofs.YtjcpcglhjeoifaaDoor.hb, List.append_nil]; exact hx, Keeps.refl _ _⟩
    simp only [lenL, Option.bind_some, hlt, decide_false, cond_false]
  | cons tag text ats kids rest ihk ihr =>
    intro row n i tok st nn x acc hr hn hs hb hl hnn hx
    simp only [Fo.len] at hn
    simp only [Fo.sz] at hs hl
    obtain ⟨a, k, ha, hk, hr', hlen, hia⟩ := row_at hr
    have hia := hia n tok (by omega)
    have wi : IntKind.wrap .i64 ((i : Int) + 1) = ((i + 1 : Nat) : Int) := w64 _ (by omega) (by omega)
    have hlt : (((i : Nat) : Int) < ((n : Nat) : Int)) := by omega
    have e1 := esc_len false text.data.toList
    have e3 := size_list text
    have e4 := size_list tag
    have eA := hbA_le ats
    have eK := hb_le kids
    have hcell : ([AV.str tag, .str text, a, k]).all AV.isCell = true := by
      rcases ha with ⟨_, rfl⟩ | ⟨_, _, rfl⟩ <;> rcases hk with ⟨_, rfl⟩ | ⟨_, _, rfl, _⟩ <;> rfl
    obtain ⟨s0, hs0⟩ : ∃ s : Sto, s = st ++ [Ob.cells 0 [.str tag, .str text, a, k] 0] := ⟨_, rfl⟩
    have hsto : sto 4 (st ++ [Ob.cells 0 [.str ⟨#[]⟩, .str ⟨#[]⟩, .nils, .nils] 0]) (.mp st.length 0 0) (.agg [.str tag, .str text, a, k]) = some s0 := by
      rw [hs0]
      exact m_new (cs := [.str ⟨#[]⟩, .str ⟨#[]⟩, .nils, .nils]) (cs' := [.str tag, .str text, a, k]) hcell rfl rfl
    have hg : s0[st.length]? = some (.cells 0 [.str tag, .str text, a, k] 0) := by rw [hs0]; simp
    have hk0 : Keeps nn st s0 := by rw [hs0]; exact Keeps.app hnn
    have hx0 : BufA nn s0 x acc := by
      rcases hx with h | ⟨j, g, hj, hx, hst⟩
      · exact .inl h
      · exact .inr ⟨j, g, hj, hx, by rw [hs0, List.getElem?_append_left (List.getElem?_eq_some_iff.1 hst).1]; exact hst⟩
    have hn0 : nn ≤ s0.length := Nat.le_trans hnn hk0.len
    have ld0 : ∀ s : Sto, s[st.length]? = some (.cells 0 [.str tag, .str text, a, k] 0) → ld false 1 s (.mp st.length 0 0) = some (.str tag) := fun s h => m_get h rfl
    have ld1 : ∀ s : Sto, s[st.length]? = some (.cells 0 [.str tag, .str text, a, k] 0) → ld false 1 s (.mp st.length 0 1) = some (.str text) := fun s h => m_get h rfl
    have ld2 : ∀ s : Sto, s[st.length]? = some (.cells 0 [.str tag, .str text, a, k] 0) → ld false 1 s (.mp st.length 0 2) = some a := fun s h => m_get h rfl
    have ld3 : ∀ s : Sto, s[st.length]? = some (.cells 0 [.str tag, .str text, a, k] 0) → ld false 1 s (.mp st.length 0 3) = some k := fun s h => m_get h rfl
    have nt : ∀ g, (Ob.cells 0 [AV.str tag, .str text, a, k] 0) ≠ .tip g := fun g h => by cases h
    have c60 : (AV.int .u8 60) = .int .u8 (((60 : UInt8).toNat : Nat) : Int) := rfl
    have c62 : (AV.int .u8 62) = .int .u8 (((62 : UInt8).toNat : Nat) : Int) := rfl
    have c47 : (AV.int .u8 47) = .int .u8 (((47 : UInt8).toNat : Nat) : Int) := rfl
    -- what follows
    have fin : ∀ (x1 : AV) (s1 : Sto) (acc1 : List UInt8), BufA nn s1 x1 acc1 → Keeps nn st s1 → nn ≤ s1.length → acc1.length + 8 * rest.sz ≤ 70368744177664 →
        ∃ x' st', stencilref7_html.p11010011 (.is row n tok) x1 ((i : Nat) : Int) s1 = some ⟨.ret x', none, st'⟩ ∧ BufA nn st' x' (acc1 ++ Go.Proofs.YtjcpcglhjeoifaaDoor.hb rest) ∧ Keeps nn st st' := by
      intro x1 s1 acc1 k1 k2 k3 k4
      rw [stencilref7_html.p11010011_eq, wi]
      obtain ⟨x', st', m1, m2, m3⟩ := ihr row n (i + 1) tok s1 nn x1 acc1 hr' (by omega) (by omega) hb k4 k3 k1
      exact ⟨x', st', m1, m2, k2.trans m3⟩
    rw [stencilref7_html.p110100_eq]
    simp only [lenL, hlt, decide_true, cond_true, hia, Option.bind_some, l4, hsto, ld0 _ hg, asS]
    by_cases ht : tag = ⟨#[]⟩
    · obtain ⟨x1, s1, p1, p2, p3, p4, p5⟩ := bufA_add2 (str := true) hx0 hn0 (tail_str (mk (esc false text.data.toList)) s0) (by
        have : (mk (esc false text.data.toList)).data.toList = esc false text.data.toList := by simp [mk]
        rw [this]
        omega)
      have hmk : (mk (esc false text.data.toList)).data.toList = esc false text.data.toList := by simp [mk]
      rw [hmk] at p2
      simp only [ht, decide_true, cond_true]
      rw [← ht]
      simp only [ld1 _ hg, Option.bind_some, textRef text (by omega), Out.on, p1]
      obtain ⟨x', st', m1, m2, m3⟩ := fin x1 s1 _ p2 (hk0.trans p3) (Nat.le_trans hn0 p4) (by rw [List.length_append]; omega)
      refine ⟨x', st', m1, ?_, m3⟩
      simp only [Go.Proofs.YtjcpcglhjeoifaaDoor.hb, ht, if_true]
      rw [← List.append_assoc]
      exact m2
    · simp only [ht, decide_false, cond_false, c60, lit_byte (.int .u8 (((60 : UInt8).toNat : Nat) : Int)) rfl, Option.bind_some]
      obtain ⟨x1, s1, p1, p2, p3, p4, p5⟩ := bufA_add2 (str := false) hx0 hn0 (tail_byte 60 s0) (by simp only [List.length_cons, List.length_nil]; omega)
      have g1 := p5 _ _ hg nt
      have n1 := Nat.le_trans hn0 p4
      obtain ⟨x2, s2, q1, q2, q3, q4, q5⟩ := bufA_add2 (str := true) p2 n1 (tail_str tag s1) (by simp only [List.length_append, List.length_cons, List.length_nil]; omega)
      have g2 := q5 _ _ g1 nt
      have n2 := Nat.le_trans n1 q4
      obtain ⟨x3, s3, r1, r2, r3, r4⟩ := refHtml_attrs (v := .is row n tok) ha (by omega) st.length ((i : Nat) : Int) nn ats [] rfl s2 x2 _ n2 g2 q2 (by simp only [List.length_append, List.length_cons, List.length_nil]; omega)
      have n3 := Nat.le_trans n2 r3.len
      simp only [List.length_nil, Int.natCast_zero] at r1
      simp only [p1, Option.bind_some, ld0 _ g1, ld0 _ hg, if_true, q1, r1]
      rw [stencilref7_html.p1101001001110100_eq]
      obtain ⟨x4, s4, t1, t2, t3, t4, t5⟩ := bufA_add2 (str := false) r2 n3 (tail_byte 62 s3) (by simp only [List.length_append, List.length_cons, List.length_nil]; omega)
      have g4 := t5 _ _ r4 nt
      have n4 := Nat.le_trans n3 t4
      obtain ⟨y, y1, y2⟩ := refHtml_of ihk hk (by omega) s4
      obtain ⟨x5, s5, u1, u2, u3, u4, u5⟩ := bufA_add2 (str := false) t2 n4 (y2.tail s4) (by simp only [List.length_append, List.length_cons, List.length_nil]; omega)
      have g5 := u5 _ _ g4 nt
      have n5 := Nat.le_trans n4 u4
      obtain ⟨x6, s6, v1, v2, v3, v4, v5⟩ := bufA_add2 (str := false) u2 n5 (tail_two s5 60 47) (by simp only [List.length_append, List.length_cons, List.length_nil]; omega)
      have g6 := v5 _ _ g5 nt
      have n6 := Nat.le_trans n5 v4
      obtain ⟨x7, s7, w1, w2, w3, w4, w5⟩ := bufA_add2 (str := true) v2 n6 (tail_str tag s6) (by simp only [List.length_append, List.length_cons, List.length_nil]; omega)
      have n7 := Nat.le_trans n6 w4
      obtain ⟨x8, s8, z1, z2, z3, z4, z5⟩ := bufA_add2 (str := false) w2 n7 (tail_byte 62 s7) (by simp only [List.length_append, List.length_cons, List.length_nil]; omega)
      simp only [ld2 _ r4, Option.bind_some, ha.len, Int.lt_irrefl, decide_false, cond_false, c62, c60, c47, lit_byte (.int .u8 (((62 : UInt8).toNat : Nat) : Int)) rfl, t1, ld3 _ g4, ld3 _ r4, if_true, y1, Out.on, u1, lit_two, v1, ld0 _ g6, ld0 _ g5, w1, z1]
      obtain ⟨x', st', m1, m2, m3⟩ := fin x8 s8 _ z2 (hk0.trans (p3.trans (q3.trans (r3.trans (t3.trans (u3.trans (v3.trans (w3.trans z3)))))))) (Nat.le_trans n7 z4) (by simp only [List.length_append, List.length_cons, List.length_nil]; omega)
      refine ⟨x', st', m1, ?_, m3⟩
      have : acc ++ Go.Proofs.YtjcpcglhjeoifaaDoor.hb (.cons tag text ats kids rest) = (((((((acc ++ [60]) ++ tag.data.toList) ++ hbA ats) ++ [62]) ++ Go.Proofs.YtjcpcglhjeoifaaDoor.hb kids) ++ [60, 47]) ++ tag.data.toList) ++ [62] ++ Go.Proofs.YtjcpcglhjeoifaaDoor.hb rest := by
        simp [Go.Proofs.YtjcpcglhjeoifaaDoor.hb, ht]
      rw [this]
      exact m2

theorem refHtml_spec {ts : Fo} {v : AV} (hv : FoV ts v) (hs : ts.sz ≤ 1050000) (st : Sto) : CallR ap 13 [v] st = some (.ret (htmlOut ts), st) := by
  have hc := refCheck_spec hv hs st
  rw [stencilref7_Html.call]
  unfold htmlOut
  by_cases hz : (look ts).2.2 = 0
  · obtain ⟨y, h1, h2⟩ := refHtml_of (refHtml_all ts) hv hs st
    simp only [hz, if_true]
    refine ret_keep ?_ rfl rfl (Keeps.refl _ _)
    rw [stencilref7_Html.b_eq, hc]
    simp only [Option.bind_some, Out.on, asI, if_true, hz, Int.natCast_zero, decide_true, Bool.not_true, cond_false, h1, h2.text st]
  · simp only [hz, if_false]
    have hz' : ¬ ((((look ts).2.2 : Nat) : Int) = 0) := by omega
    refine ret_keep ?_ rfl rfl (Keeps.refl _ _)
    rw [stencilref7_Html.b_eq, hc]
    simp only [Option.bind_some, Out.on, asI, if_true, hz', decide_false, Bool.not_false, cond_true]
end Go.Proofs.YtjcpcglhjeoifaaDoor
