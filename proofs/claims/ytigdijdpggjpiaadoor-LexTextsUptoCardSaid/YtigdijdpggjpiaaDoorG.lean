/- LexTexts: what is written is read. -/
import Derived.Test.YtigdijdpggjpiaaDoorM
import Derived.Test.YtigdijdpggjpiaaDoorB
namespace Go.Proofs.YtigdijdpggjpiaaDoor
open Go.St Go.Lib
set_option linter.unusedVariables false
set_option linter.unusedSimpArgs false

/-! ### Runes, escaped -/
theorem bat_mk (l : List UInt8) (k : Nat) : bat (mk l) k = (l[k]?.getD 0).toNat := by
  by_cases h : k < (mk l).size
  · obtain ⟨c, h1, h2, _⟩ := byt_at h
    have h3 : (mk l).data.toList[k]? = some c := h1
    rw [mk_list] at h3
    have := byt_bat (mk l) k
    rw [h2] at this
    rw [h3]
    simp only [Option.getD_some]
    omega
  · rw [bat_out (by omega)]
    rw [mk_size] at h
    rw [List.getElem?_eq_none (by omega)]
    rfl
theorem scan_det {s : ByteArray} {i : Nat} {r : Option Nat} (h : Scan s i r) : ∀ {r'}, Scan s i r' → r = r' := by
  induction h with
  | done i h => intro r' k; cases k with
    | done => rfl
    | bad _ h' _ => omega
    | step _ _ h' _ _ => omega
  | bad i h hb => intro r' k; cases k with
    | done _ h' => omega
    | bad => rfl
    | step _ _ _ hb' _ => exact absurd hb hb'
  | step i r h hb k ih => intro r' k'; cases k' with
    | done _ h' => omega
    | bad _ _ hb' => exact absurd hb' hb
    | step _ _ _ _ k' => exact ih k'
def V (l : List UInt8) : Prop := Scan (mk l) 0 none
theorem V_nil : V [] := .done 0 rfl
theorem V_app {a b : List UInt8} (ha : V a) : V (a ++ b) ↔ V b := by
  unfold V
  rw [← mk_app]
  constructor
  · intro h
    obtain ⟨r, hr⟩ := scan_ex (mk b) (mk b).size 0 (by omega) (Nat.zero_le _)
    have := scan_det h (scan_join ha rfl hr)
    cases r with
    | none => exact hr
    | some a => cases this
  · intro h
    exact scan_join ha rfl h
theorem V_ascii {l : List UInt8} (h : ∀ c ∈ l, c.toNat < 128) : V l := by
  refine scan_ascii ?_ _ 0 (Nat.zero_add _)
  intro i hi
  rw [mk_size] at hi
  rw [bat_mk, List.getElem?_eq_getElem hi]
  exact h _ (List.getElem_mem hi)
theorem rune_hi {s : ByteArray} {i : Nat} (hi : i < s.size) (hb : ¬ Bad s i) (h128 : 128 ≤ bat s i) : ∀ k, k < (dec s i).2 → 128 ≤ bat s (i + k) := by
  have hd := dec_eq s i
  rcases decodeN_cases (s.size - i) (bat s i) (bat s (i + 1)) (bat s (i + 2)) (bat s (i + 3)) (bat_lt _ _) with ⟨h0, h⟩ | ⟨h0, h⟩ | h
  · omega
  · rw [h] at hd
    exact absurd ⟨by rw [hd], h0⟩ hb
  · rw [← hd] at h
    obtain ⟨h1, h2, h3, h4, h5, h6, h7, h8⟩ := h
    intro k hk
    rcases (show k = 0 ∨ k = 1 ∨ k = 2 ∨ k = 3 by omega) with rfl | rfl | rfl | rfl
    · simpa using h128
    · omega
    · have := h7 (by omega); omega
    · have := h8 (by omega); omega
theorem E1_hi {q : Bool} {c : UInt8} (h : 128 ≤ c.toNat) : E1 q c = [c] := by
  rcases E1_cases q c with ⟨e, _⟩ | ⟨e, _⟩ | ⟨e, _⟩ | ⟨e, _⟩ | ⟨e, _, _⟩ | ⟨_, _, _, _, _, e⟩
  all_goals first | exact e | (exfalso; subst e; revert h; decide)
theorem E1_lo {q : Bool} {c : UInt8} (h : c.toNat < 128) : ∀ b ∈ E1 q c, b.toNat < 128 := by
  intro b hb
  rcases E1_cases q c with ⟨_, e⟩ | ⟨_, e⟩ | ⟨_, e⟩ | ⟨_, e⟩ | ⟨_, _, e⟩ | ⟨_, _, _, _, _, e⟩ <;> rw [e] at hb <;> simp only [List.mem_cons, List.not_mem_nil, or_false] at hb
  · rcases hb with rfl | rfl | rfl | rfl | rfl <;> decide
  · rcases hb with rfl | rfl | rfl | rfl <;> decide
  · rcases hb with rfl | rfl | rfl | rfl <;> decide
  · rcases hb with rfl | rfl | rfl | rfl | rfl | rfl | rfl | rfl <;> decide
  · rcases hb with rfl | rfl | rfl | rfl | rfl | rfl <;> decide
  · subst hb
    exact h
theorem E1_ne (q : Bool) (c : UInt8) : E1 q c ≠ [] := by
  rcases E1_cases q c with ⟨_, e⟩ | ⟨_, e⟩ | ⟨_, e⟩ | ⟨_, e⟩ | ⟨_, _, e⟩ | ⟨_, _, _, _, _, e⟩ <;> rw [e] <;> simp
theorem esc_cons (q : Bool) (c : UInt8) (l : List UInt8) : esc q (c :: l) = E1 q c ++ esc q l := by simp [esc]
theorem esc_hi {q : Bool} {l : List UInt8} (h : ∀ c ∈ l, 128 ≤ c.toNat) : esc q l = l := by
  induction l with
  | nil => rfl
  | cons c r ih => rw [esc_cons, E1_hi (h c List.mem_cons_self), ih fun d hd => h d (List.mem_cons_of_mem _ hd)]; rfl
theorem esc_take {q : Bool} : ∀ (m : Nat) (l : List UInt8), m ≤ (esc q l).length → (∀ c ∈ (esc q l).take m, 128 ≤ c.toNat) → m ≤ l.length ∧ l.take m = (esc q l).take m := by
  intro m
  induction m with
  | zero => intro l _ _; simp
  | succ m ih =>
    intro l hm h
    cases l with
    | nil => simp [esc] at hm
    | cons c r =>
      rw [esc_cons] at hm h ⊢
      by_cases hc : 128 ≤ c.toNat
      · rw [E1_hi hc] at hm h ⊢
        simp only [List.singleton_append, List.length_cons, List.take_succ_cons] at hm h ⊢
        obtain ⟨h1, h2⟩ := ih r (by omega) (fun d hd => h d (List.mem_cons_of_mem _ hd))
        exact ⟨by omega, by rw [h2]⟩
      · cases he : E1 q c with
        | nil => exact absurd he (E1_ne q c)
        | cons d e =>
          rw [he] at h
          have h1 : d.toNat < 128 := E1_lo (q := q) (c := c) (by omega) d (by rw [he]; exact List.mem_cons_self)
          have h2 : 128 ≤ d.toNat := h d (by simp)
          omega
theorem V_take {l : List UInt8} (h0 : 0 < l.length) (hb : ¬ Bad (mk l) 0) : V (l.take (dec (mk l) 0).2) ∧ (dec (mk l) 0).2 ≤ l.length := by
  have hi : 0 < (mk l).size := by rw [mk_size]; exact h0
  have hle := dec_le hi
  rw [mk_size] at hle
  have hsz : (mk (l.take (dec (mk l) 0).2)).size = (dec (mk l) 0).2 := by rw [mk_size, List.length_take]; omega
  obtain ⟨e, hnb⟩ := dec_loc (t := mk (l.take (dec (mk l) 0).2)) (j := 0) hi hb (by rw [hsz]; omega) (fun k hk => by
    rw [bat_mk, bat_mk, Nat.zero_add, List.getElem?_take, if_pos hk])
  have hp := dec_pos (mk l) 0
  exact ⟨.step 0 none (by rw [hsz]; omega) hnb (by rw [e]; exact .done _ (by rw [hsz, Nat.zero_add])), by omega⟩
theorem V_esc (q : Bool) : ∀ (m : Nat) (l : List UInt8), l.length ≤ m → (V (esc q l) ↔ V l) := by
  intro m
  induction m with
  | zero =>
    intro l h
    have : l = [] := List.eq_nil_of_length_eq_zero (by omega)
    subst this
    rfl
  | succ m ih =>
    intro l h
    cases l with
    | nil => rfl
    | cons c r =>
      simp only [List.length_cons] at h
      by_cases hc : c.toNat < 128
      · have h1 : V [c] := V_ascii (by simpa using hc)
        have h2 : V (E1 q c) := V_ascii (E1_lo hc)
        rw [esc_cons, V_app h2, ih r (by omega), show c :: r = [c] ++ r from rfl, V_app h1]
      · have hl0 : bat (mk (c :: r)) 0 = c.toNat := by rw [bat_mk]; rfl
        by_cases hb : Bad (mk (c :: r)) 0
        · constructor
          · intro hv
            exfalso
            have hE0 : 0 < (esc q (c :: r)).length := by rw [esc_cons, E1_hi (by omega)]; simp
            have hEi : 0 < (mk (esc q (c :: r))).size := by rw [mk_size]; exact hE0
            have hnb : ¬ Bad (mk (esc q (c :: r))) 0 := by
              intro hbad
              have := scan_det hv (.bad 0 hEi hbad)
              cases this
            have hE : bat (mk (esc q (c :: r))) 0 = c.toNat := by rw [bat_mk, esc_cons, E1_hi (by omega)]; rfl
            have hhi := rune_hi hEi hnb (by omega)
            obtain ⟨_, hle⟩ := V_take hE0 hnb
            obtain ⟨k, hk⟩ : ∃ k, k = (dec (mk (esc q (c :: r))) 0).2 := ⟨_, rfl⟩
            rw [← hk] at hhi hle
            obtain ⟨t1, t2⟩ := esc_take (q := q) k (c :: r) hle (fun d hd => by
              obtain ⟨i, hi, rfl⟩ := List.mem_iff_getElem.1 hd
              rw [List.length_take] at hi
              have := hhi i (by omega)
              rw [Nat.zero_add, bat_mk, List.getElem?_eq_getElem (by omega)] at this
              rw [List.getElem_take]
              exact this)
            obtain ⟨_, hnb2⟩ := dec_loc (t := mk (c :: r)) (j := 0) hEi hnb (by rw [← hk, mk_size]; omega) (fun i hi => by
              rw [← hk] at hi
              rw [bat_mk, bat_mk, Nat.zero_add]
              have := congrArg (fun l : List UInt8 => l[i]?) t2
              simp only [List.getElem?_take, if_pos hi] at this
              rw [this])
            exact hnb2 hb
          · intro hv
            exfalso
            have := scan_det hv (.bad 0 (by rw [mk_size]; simp) hb)
            cases this
        · obtain ⟨h1, h2⟩ := V_take (l := c :: r) (by simp) hb
          have hp := dec_pos (mk (c :: r)) 0
          have hhi := rune_hi (s := mk (c :: r)) (i := 0) (by rw [mk_size]; simp) hb (by omega)
          obtain ⟨k, hk⟩ : ∃ k, k = (dec (mk (c :: r)) 0).2 := ⟨_, rfl⟩
          rw [← hk] at h1 h2 hp hhi
          have hall : ∀ d ∈ (c :: r).take k, 128 ≤ d.toNat := fun d hd => by
            obtain ⟨i, hi, rfl⟩ := List.mem_iff_getElem.1 hd
            rw [List.length_take] at hi
            have := hhi i (by omega)
            rw [Nat.zero_add, bat_mk, List.getElem?_eq_getElem (by omega)] at this
            rw [List.getElem_take]
            exact this
          have hsp : c :: r = (c :: r).take k ++ (c :: r).drop k := (List.take_append_drop k _).symm
          have he : esc q (c :: r) = (c :: r).take k ++ esc q ((c :: r).drop k) := by
            conv => lhs; rw [hsp, esc_app, esc_hi hall]
          rw [he, V_app h1, ih _ (by rw [List.length_drop]; simp only [List.length_cons] at *; omega)]
          conv => rhs; rw [hsp, V_app h1]

/-! ### What is escaped has no marks -/
theorem esc_no (q : Bool) (l : List UInt8) : (60 : UInt8) ∉ esc q l ∧ (123 : UInt8) ∉ esc q l ∧ (q = true → (34 : UInt8) ∉ esc q l) := by
  have key : ∀ b, (b = 60 ∨ b = 123 ∨ (q = true ∧ b = 34)) → b ∉ esc q l := by
    intro b hbad hb
    simp only [esc, List.mem_flatMap] at hb
    obtain ⟨c, _, hb⟩ := hb
    rcases E1_cases q c with ⟨_, e⟩ | ⟨_, e⟩ | ⟨_, e⟩ | ⟨_, e⟩ | ⟨_, _, e⟩ | ⟨h1, h2, h3, h4, h5, e⟩ <;> rw [e] at hb
    all_goals simp only [List.mem_cons, List.not_mem_nil, or_false] at hb
    · rcases hbad with rfl | rfl | ⟨_, rfl⟩ <;> revert hb <;> decide
    · rcases hbad with rfl | rfl | ⟨_, rfl⟩ <;> revert hb <;> decide
    · rcases hbad with rfl | rfl | ⟨_, rfl⟩ <;> revert hb <;> decide
    · rcases hbad with rfl | rfl | ⟨_, rfl⟩ <;> revert hb <;> decide
    · rcases hbad with rfl | rfl | ⟨_, rfl⟩ <;> revert hb <;> decide
    · subst hb
      rcases hbad with rfl | rfl | ⟨hq, rfl⟩
      · exact h2 rfl
      · exact h4 rfl
      · have := h5 rfl
        rw [hq] at this
        cases this
  exact ⟨key 60 (.inl rfl), key 123 (.inr (.inl rfl)), fun hq => key 34 (.inr (.inr ⟨hq, rfl⟩))⟩
theorem txN_all {l : List UInt8} (h1 : (60 : UInt8) ∉ l) (h2 : (123 : UInt8) ∉ l) : txN l = l.length := by
  induction l with
  | nil => rfl
  | cons c r ih =>
    have n1 : c ≠ 60 := fun e => h1 (by rw [e]; exact List.mem_cons_self)
    have n2 : c ≠ 123 := fun e => h2 (by rw [e]; exact List.mem_cons_self)
    have n3 : pre [123, 123] (c :: r) = false := by
      simp only [pre, List.isPrefixOf, Bool.and_eq_false_iff, beq_eq_false_iff_ne]
      exact .inl fun e => n2 e.symm
    simp only [txN]
    rw [if_neg (by rw [n3]; simp [n1]), ih (fun e => h1 (List.mem_cons_of_mem _ e)) (fun e => h2 (List.mem_cons_of_mem _ e))]
    rfl
theorem indexByte_app {l : List UInt8} {c : UInt8} (h : c ∉ l) (r : List UInt8) : Lib.indexByte (l ++ c :: r) c = (l.length : Nat) := by
  induction l with
  | nil => simp [Lib.indexByte]
  | cons b l ih =>
    have h1 : (b == c) = false := beq_eq_false_iff_ne.2 fun e => h (by rw [e]; exact List.mem_cons_self)
    have h2 := ih fun e => h (List.mem_cons_of_mem _ e)
    simp only [List.cons_append, Lib.indexByte, h1, Bool.false_eq_true, if_false, h2]
    have : ¬ (((l.length : Nat) : Int) = -1) := by omega
    simp [this]
theorem plM_esc (q : Bool) (l : List UInt8) (f p : Nat) (b : Bool) : plM (esc q l) f p b = if b = false ∧ 4096 < l.length then .error (1201, p) else .ok l := by
  unfold plM
  rw [pl_esc q l _ 0 [] (Nat.le_refl _)]
  rfl

/-- The plain lexer at a text. -/
theorem lex_text (l : List UInt8) (hl : l ≠ []) (m : Nat) : lexM (m + 2) (esc false l) 0 = if 4096 < l.length then .error (1201, 0) else .ok [⟨1, [], l, 0⟩] := by
  obtain ⟨n1, n2, _⟩ := esc_no false l
  have hne : esc false l ≠ [] := by
    cases l with
    | nil => exact absurd rfl hl
    | cons c r => rw [esc_cons]; intro h; exact E1_ne false c (List.append_eq_nil_iff.1 h).1
  have hpos := List.length_pos_iff.2 hne
  have p1 : pre [123, 123] (esc false l) = false := by
    cases he : esc false l with
    | nil => rfl
    | cons c r =>
      rw [he] at n2
      simp only [pre, List.isPrefixOf, Bool.and_eq_false_iff, beq_eq_false_iff_ne]
      exact .inl fun e => n2 (by rw [e]; exact List.mem_cons_self)
  have p2 : pre [60] (esc false l) = false := by
    cases he : esc false l with
    | nil => rfl
    | cons c r =>
      rw [he] at n1
      simp only [pre, List.isPrefixOf, Bool.and_eq_false_iff, beq_eq_false_iff_ne]
      exact .inl fun e => n1 (by rw [e]; exact List.mem_cons_self)
  have hs : stepM (esc false l) 0 = if 4096 < l.length then .error (1201, 0) else .ok ([⟨1, [], l, 0⟩], (esc false l).length) := by
    unfold stepM
    rw [List.drop_zero, p1, p2]
    simp only [Bool.false_eq_true, if_false]
    unfold textM
    rw [List.drop_zero, txN_all n1 n2, List.take_length, plM_esc]
    by_cases h : 4096 < l.length
    · simp [h]
    · simp [h]
  simp only [lexM]
  rw [if_neg (by omega), hs]
  by_cases h : 4096 < l.length
  · simp only [h, if_true]
  · simp only [h, if_false, Nat.le_refl, if_true, List.append_nil]

def ind : List UInt8 := [60, 112, 32, 97, 61, 34]
def outd : List UInt8 := [34, 47, 62]
theorem lex_attr (l : List UInt8) (m : Nat) : lexM (m + 2) (ind ++ (esc true l ++ outd)) 0 = if 4096 < l.length then .error (1201, 5) else .ok [⟨3, [112], [], 0⟩, ⟨4, [97], l, 3⟩, ⟨7, [], [], (esc true l).length + 7⟩] := by
  obtain ⟨_, _, n3⟩ := esc_no true l
  have n3 := n3 rfl
  obtain ⟨A, hA⟩ : ∃ A, A = esc true l := ⟨_, rfl⟩
  have hpl := fun f p b => plM_esc true l f p b
  rw [← hA] at n3 hpl ⊢
  obtain ⟨T, hT⟩ : ∃ T, T = A ++ outd := ⟨_, rfl⟩
  have hib : Lib.indexByte T 34 = (A.length : Nat) := by rw [hT]; exact indexByte_app n3 _
  have htk : T.take A.length = A := by rw [hT, List.take_left]
  have hdr : ∀ i, T.drop (A.length + i) = outd.drop i := fun i => by rw [hT, ← List.drop_drop, List.drop_left]
  have hlen : T.length = A.length + 3 := by rw [hT]; simp [outd]
  rw [← hT]
  have hL : (ind ++ T).length = A.length + 9 := by rw [List.length_append, hlen]; simp [ind]; omega
  have dT : ∀ i, (ind ++ T).drop (6 + i) = T.drop i := fun i => by rw [show 6 + i = ind.length + i from rfl, ← List.drop_drop, List.drop_left]
  have d0 : ind ++ T = 60 :: 112 :: 32 :: 97 :: 61 :: 34 :: T := rfl
  have k112 : nm (112 :: 32 :: 97 :: 61 :: 34 :: T) = 1 := by
    have h1 : letter 112 = true := rfl
    have h2 : inner 32 = false := rfl
    simp [nm, h1, h2]
  have k97 : nm (97 :: 61 :: 34 :: T) = 1 := by
    have h1 : letter 97 = true := rfl
    have h2 : inner 61 = false := rfl
    simp [nm, h1, h2]
  have b32 : bl (32 :: 97 :: 61 :: 34 :: T) = 1 := by
    have h1 : blank 32 = true := rfl
    have h2 : blank 97 = false := rfl
    simp [bl, h1, h2]
  have at1 : attrM (ind ++ T) 3 = if 4096 < l.length then .error (1201, 5) else .ok ([⟨4, [97], l, 3⟩], A.length + 7) := by
    have c0 : colon (ind ++ T) 3 = 0 := by
      unfold colon
      rw [d0]
      simp [pre, List.isPrefixOf]
    have e3 : (ind ++ T).drop 3 = 97 :: 61 :: 34 :: T := rfl
    have e4 : (ind ++ T).drop 4 = 61 :: 34 :: T := rfl
    have e5 : (ind ++ T).drop 5 = 34 :: T := rfl
    have e6 : (ind ++ T).drop 6 = T := rfl
    have p61 : pre [61] (61 :: 34 :: T) = true := by simp [pre, List.isPrefixOf]
    have p34 : pre [34] (34 :: T) = true := by simp [pre, List.isPrefixOf]
    have bn : badN (97 :: 61 :: 34 :: T) = false := by unfold badN; rw [k97]; rfl
    unfold attrM
    rw [c0, Nat.add_zero, e3, bn]
    simp only [Bool.false_eq_true, if_false]
    unfold attr2
    rw [e3, k97, show 3 + 1 = 4 from rfl, e4, p61, show 4 + 1 = 5 from rfl, e5, p34, show 5 + 1 = 6 from rfl, e6, hib]
    have hneg : ¬ (((A.length : Nat) : Int) < 0) := by omega
    simp only [Bool.true_eq_false, if_false, hneg, Int.toNat_natCast, htk, hpl, Nat.zero_ne_one, decide_false]
    by_cases h : 4096 < l.length
    · simp [h]
    · simp only [h, and_false, if_false, show 6 + (A.length + 1) = A.length + 7 by omega]
      rfl
  have at2 : ∀ k, attrsM (k + 1) (ind ++ T) (A.length + 7) = .ok ([⟨7, [], [], A.length + 7⟩], A.length + 9) := by
    intro k
    have e7 : (ind ++ T).drop (A.length + 7) = [47, 62] := by rw [show A.length + 7 = 6 + (A.length + 1) by omega, dT, hdr]; rfl
    have e8 : (ind ++ T).drop (A.length + 7 + 1) = [62] := by rw [show A.length + 7 + 1 = 6 + (A.length + 2) by omega, dT, hdr]; rfl
    have b0 : bl [47, 62] = 0 := by decide
    have p47 : pre [47] [47, 62] = true := by decide
    have p62 : pre [62] [62] = true := by decide
    simp only [attrsM]
    rw [e7, b0, Nat.add_zero, e7, p47, e8, p62]
    simp
  have at0 : attrsM ((ind ++ T).length + 1) (ind ++ T) 2 = if 4096 < l.length then .error (1201, 5) else .ok ([⟨4, [97], l, 3⟩, ⟨7, [], [], A.length + 7⟩], A.length + 9) := by
    have e2 : (ind ++ T).drop 2 = 32 :: 97 :: 61 :: 34 :: T := rfl
    have e3 : (ind ++ T).drop (2 + 1) = 97 :: 61 :: 34 :: T := rfl
    have q1 : pre [47] (97 :: 61 :: 34 :: T) = false := by simp [pre, List.isPrefixOf]
    have q2 : pre [62] (97 :: 61 :: 34 :: T) = false := by simp [pre, List.isPrefixOf]
    rw [hL]
    rw [show A.length + 9 + 1 = (A.length + 8 + 1) + 1 by omega]
    rw [attrsM]
    rw [e2, b32, e3, q1, q2, show 2 + 1 = 3 from rfl, at1]
    simp only [Bool.false_eq_true, if_false, Nat.one_ne_zero]
    by_cases h : 4096 < l.length
    · simp only [h, if_true]
    · simp only [h, if_false, at2]
      rfl
  have hs : stepM (ind ++ T) 0 = if 4096 < l.length then .error (1201, 5) else .ok ([⟨3, [112], [], 0⟩, ⟨4, [97], l, 3⟩, ⟨7, [], [], A.length + 7⟩], A.length + 9) := by
    have e1 : (ind ++ T).drop (0 + 1) = 112 :: 32 :: 97 :: 61 :: 34 :: T := rfl
    have q1 : pre [123, 123] (60 :: 112 :: 32 :: 97 :: 61 :: 34 :: T) = false := by simp [pre, List.isPrefixOf]
    have q2 : pre [60] (60 :: 112 :: 32 :: 97 :: 61 :: 34 :: T) = true := by simp [pre, List.isPrefixOf]
    have q3 : pre [47] (112 :: 32 :: 97 :: 61 :: 34 :: T) = false := by simp [pre, List.isPrefixOf]
    have bn : badN (112 :: 32 :: 97 :: 61 :: 34 :: T) = false := by unfold badN; rw [k112]; rfl
    unfold stepM
    rw [List.drop_zero, show pre [123, 123] (ind ++ T) = false from q1, show pre [60] (ind ++ T) = true from q2]
    simp only [Bool.false_eq_true, if_false, if_true]
    unfold tagM
    rw [e1, q3, bn]
    simp only [Bool.false_eq_true, if_false]
    unfold open2
    rw [e1, k112, show 0 + 1 + 1 = 2 from rfl, at0]
    by_cases h : 4096 < l.length
    · simp only [h, if_true]
    · simp only [h, if_false]
      rfl
  simp only [lexM]
  rw [if_neg (by omega), hs]
  by_cases h : 4096 < l.length
  · simp only [h, if_true]
  · simp only [h, if_false]
    rw [if_pos (by omega)]
    rfl
end Go.Proofs.YtigdijdpggjpiaaDoor
