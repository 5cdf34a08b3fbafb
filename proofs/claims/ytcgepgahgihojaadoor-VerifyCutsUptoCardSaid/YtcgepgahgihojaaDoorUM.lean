/- Texts as runes: what the functions answer on the machine. -/
import Derived.Test.YtcgepgahgihojaaDoorE
import Derived.Test.YtcgepgahgihojaaDoorU
import GoSem.PinnedTables
namespace Go.Proofs.YtcgepgahgihojaaDoor
open Go.St Go.Lib
set_option linter.unusedVariables false
set_option linter.unusedSimpArgs false

theorem ret_keep {b : Option Res} {v : AV} {st st' : Sto} (h : b = some ⟨.ret v, none, st'⟩) (hs : v.strip st.length = v) (ho : v.old st.length = true) (hk : Keeps st.length st st') :
    (b.bind fun r => some (gc st (r.out, r.st))) = some (.ret v, st) := by
  rw [h]
  simp only [Option.bind_some]
  rw [gc_keep hs ho hk]

theorem w64 {x : Int} (k : Nat) (h : x = k) (hk : k < 9223372036854775808) : IntKind.wrap .i64 x = (k : Int) := by rw [h]; exact wrap64 (by omega) (by omega)

theorem first_at (b : Nat) (h : b < 256) : (iaArr 256 1 (.ip glob0) (.int .u8 (b : Int))) = some (.ip [.int .u8 (firstT b : Nat)]) := by
  have hf : ∀ c : Fin 256, Go.Pinned.utf8FirstZ[c.1]? = some (firstT c.1) := by decide +kernel
  have hl : Go.Pinned.utf8FirstZ.length = 256 := by decide +kernel
  have hg : glob0[b]? = some (.int .u8 (firstT b : Nat)) := by
    show (Go.Pinned.utf8FirstZ.map fun (n : Nat) => AV.int .u8 (n : Int))[b]? = _
    rw [List.getElem?_map, hf ⟨b, h⟩]
    rfl
  have hgl : glob0.length = 256 := by show (Go.Pinned.utf8FirstZ.map fun (n : Nat) => AV.int .u8 (n : Int)).length = 256; rw [List.length_map, hl]
  unfold iaArr
  simp only [idx_nat h, Option.bind_some, hgl]
  rw [if_pos (by omega)]
  congr 2
  obtain ⟨hb, he⟩ := List.getElem?_eq_some_iff.1 hg
  rw [Nat.mul_one, List.drop_eq_getElem_cons hb, he]
  rfl

set_option maxHeartbeats 4000000 in
theorem slow_core (t : ByteArray) (st : Sto) (ht : 0 < t.size) (x k lo hi sz : Nat) (hx : firstT (bat t 0) = x) (hx' : x < 240) (hsz : 2 ≤ sz) (hsz' : sz ≤ 4) (h1 : shrI .u8 x 4 = k) (h2 : iaArr 16 2 (.ip glob1) (.int .u8 k) = some (.ip [.int .u8 lo, .int .u8 hi]))
    (h3 : IntKind.wrap .i64 (andI .u8 x 7) = sz) : ∃ X st', unicode_utf8_decodeRuneInStringSlow.b t st = some ⟨.ret (.tup [.int .i32 X, .int .i64 ((slowN t.size (bat t 0) (bat t 1) (bat t 2) (bat t 3) sz lo hi).2 : Nat)]), none, st'⟩ ∧ Keeps st.length st st' := by
  have hsto : sto 2 (st ++ [Ob.cells 0 [.int .u8 0, .int .u8 0] 0]) (.mp st.length 0 0) (.agg [.int .u8 lo, .int .u8 hi]) = some (st ++ [Ob.cells 0 [.int .u8 lo, .int .u8 hi] 0]) := by
    simp [sto, stCells, AV.cells, AV.isCell, splice]
  have hk : Keeps st.length st (st ++ [Ob.cells 0 [.int .u8 lo, .int .u8 hi] 0]) := Keeps.app (Nat.le_refl _)
  have hl0 : ld false 1 (st ++ [Ob.cells 0 [.int .u8 lo, .int .u8 hi] 0]) (.mp st.length 0 0) = some (.int .u8 lo) := by simp [ld, ldCells, pack]
  have hl1 : ld false 1 (st ++ [Ob.cells 0 [.int .u8 lo, .int .u8 hi] 0]) (.mp st.length 0 1) = some (.int .u8 hi) := by simp [ld, ldCells, pack]
  have hp : ld true 2 st (.ip [.int .u8 lo, .int .u8 hi]) = some (.agg [.int .u8 lo, .int .u8 hi]) := by simp [ld, ldCells, pack]
  have hp1 : ld false 1 st (.ip [.int .u8 (x : Int)]) = some (.int .u8 (x : Int)) := by simp [ld, ldCells, pack]
  have e1 : ¬ ((t.size : Int) < 1) := by omega
  have e2 : ¬ ((240 : Int) ≤ (x : Int)) := by omega
  rw [unicode_utf8_decodeRuneInStringSlow.b_eq]
  simp only [e1, decide_false, cond_false, idx0 ht, Option.bind_some, byt_bat, first_at _ (bat_lt t 0), hx, hp1, asI, if_true, e2, h1, h2, hp, hsto, h3]
  have c1 : ((t.size : Int) < (sz : Int)) = (t.size < sz) := propext ⟨fun h => by omega, fun h => by omega⟩
  by_cases a1 : t.size < sz
  · simp only [c1, a1, decide_true, cond_true]
    exact ⟨_, _, by simp only [slowN, a1, if_true]; rfl, hk⟩
  · have i1 : 1 < t.size := by omega
    simp only [c1, a1, decide_false, cond_false, idx1 i1, Option.bind_some, hl0, byt_bat]
    by_cases a2 : bat t 1 < lo
    · have a2' : (bat t 1 : Int) < (lo : Int) := by omega
      simp only [asI, if_true, Option.bind_some, a2', decide_true, cond_true, unicode_utf8_decodeRuneInStringSlow.p111111111101_eq]
      exact ⟨_, _, by simp only [slowN, a1, a2, true_or, if_true, if_false]; rfl, hk⟩
    · have a2' : ¬ (bat t 1 : Int) < (lo : Int) := by omega
      simp only [asI, if_true, Option.bind_some, a2', decide_false, cond_false, hl1, unicode_utf8_decodeRuneInStringSlow.p111111111101_eq]
      by_cases a3 : hi < bat t 1
      · have a3' : (hi : Int) < (bat t 1 : Int) := by omega
        simp only [a3', decide_true, cond_true]
        exact ⟨_, _, by simp only [slowN, a1, a2, a3, or_true, if_true, if_false]; rfl, hk⟩
      · have a3' : ¬ (hi : Int) < (bat t 1 : Int) := by omega
        simp only [a3', decide_false, cond_false]
        by_cases a4 : sz ≤ 2
        · have a4' : (sz : Int) ≤ 2 := by omega
          simp only [a4', decide_true, cond_true]
          exact ⟨_, _, by simp only [slowN, a1, a2, a3, a4, or_false, if_true, if_false]; rfl, hk⟩
        · have a4' : ¬ (sz : Int) ≤ 2 := by omega
          have i2 : 2 < t.size := by omega
          simp only [a4', decide_false, cond_false, idx2 i2, Option.bind_some, byt_bat, unicode_utf8_decodeRuneInStringSlow.p111111111111101_eq]
          have fin3 : ∀ q : Bool, q = decide (bat t 2 < 128 ∨ 191 < bat t 2) → ∃ X st', (bif q then some ⟨.ret (.tup [.int .i32 65533, .int .i64 1]), none, st ++ [Ob.cells 0 [.int .u8 lo, .int .u8 hi] 0]⟩ else unicode_utf8_decodeRuneInStringSlow.p111111111111101 t (bat t 0 : Int) (sz : Int) (bat t 1 : Int) (bat t 2 : Int) false (st ++ [Ob.cells 0 [.int .u8 lo, .int .u8 hi] 0])) =
              some ⟨.ret (.tup [.int .i32 X, .int .i64 ((slowN t.size (bat t 0) (bat t 1) (bat t 2) (bat t 3) sz lo hi).2 : Nat)]), none, st'⟩ ∧ Keeps st.length st st' := by
            intro q hq
            by_cases a5 : bat t 2 < 128 ∨ 191 < bat t 2
            · simp only [a5, decide_true] at hq
              subst hq
              simp only [cond_true]
              exact ⟨_, _, by simp only [slowN, a1, a2, a3, a4, a5, or_false, if_true, if_false]; rfl, hk⟩
            · simp only [a5, decide_false] at hq
              subst hq
              simp only [cond_false, unicode_utf8_decodeRuneInStringSlow.p111111111111101_eq]
              by_cases a6 : sz ≤ 3
              · have a6' : (sz : Int) ≤ 3 := by omega
                simp only [a6', decide_true, cond_true]
                exact ⟨_, _, by simp only [slowN, a1, a2, a3, a4, a5, a6, or_false, if_true, if_false]; rfl, hk⟩
              · have a6' : ¬ (sz : Int) ≤ 3 := by omega
                have i3 : 3 < t.size := by omega
                simp only [a6', decide_false, cond_false, idx3 i3, Option.bind_some, byt_bat, unicode_utf8_decodeRuneInStringSlow.p111111111111111101_eq]
                by_cases b1 : bat t 3 < 128
                · have b1' : (bat t 3 : Int) < 128 := by omega
                  simp only [b1', decide_true, cond_true]
                  exact ⟨_, _, by simp only [slowN, a1, a2, a3, a4, a5, a6, b1, true_or, or_false, if_true, if_false]; rfl, hk⟩
                · have b1' : ¬ (bat t 3 : Int) < 128 := by omega
                  simp only [b1', decide_false, cond_false]
                  by_cases b2 : 191 < bat t 3
                  · have b2' : (191 : Int) < (bat t 3 : Int) := by omega
                    simp only [b2', decide_true, cond_true]
                    exact ⟨_, _, by simp only [slowN, a1, a2, a3, a4, a5, a6, b1, b2, or_true, or_false, if_true, if_false]; rfl, hk⟩
                  · have b2' : ¬ (191 : Int) < (bat t 3 : Int) := by omega
                    simp only [b2', decide_false, cond_false]
                    exact ⟨_, _, by simp only [slowN, a1, a2, a3, a4, a5, a6, b1, b2, or_false, if_true, if_false]; rfl, hk⟩
          by_cases c5 : bat t 2 < 128
          · have c5' : (bat t 2 : Int) < 128 := by omega
            have := fin3 true (by simp [c5])
            simp only [c5', decide_true, cond_true] at this ⊢
            exact this
          · have c5' : ¬ (bat t 2 : Int) < 128 := by omega
            by_cases c6 : 191 < bat t 2
            · have c6' : (191 : Int) < (bat t 2 : Int) := by omega
              have := fin3 true (by simp [c6])
              simp only [c5', c6', decide_true, decide_false, cond_true, cond_false] at this ⊢
              exact this
            · have c6' : ¬ (191 : Int) < (bat t 2 : Int) := by omega
              have := fin3 false (by simp [c5, c6])
              simp only [c5', c6', decide_false, cond_false, unicode_utf8_decodeRuneInStringSlow.p111111111111101_eq] at this ⊢
              exact this

theorem slow_spec (t : ByteArray) (st : Sto) (ht : 0 < t.size) (hb : 128 ≤ bat t 0) : ∃ X, CallR ap 52 [.str t] st = some (.ret (.tup [.int .i32 X, .int .i64 ((dec t 0).2 : Nat)]), st) := by
  have h0 := bat_lt t 0
  have hd := dec_eq t 0
  simp only [Nat.sub_zero, Nat.zero_add] at hd
  have fin : (∃ X st', unicode_utf8_decodeRuneInStringSlow.b t st = some ⟨.ret (.tup [.int .i32 X, .int .i64 ((dec t 0).2 : Nat)]), none, st'⟩ ∧ Keeps st.length st st') → ∃ X, CallR ap 52 [.str t] st = some (.ret (.tup [.int .i32 X, .int .i64 ((dec t 0).2 : Nat)]), st) := by
    rintro ⟨X, st', h, hk⟩
    exact ⟨X, by rw [unicode_utf8_decodeRuneInStringSlow.call]; exact ret_keep h rfl rfl hk⟩
  apply fin
  have core : ∀ (x k lo hi sz : Nat), firstT (bat t 0) = x → x < 240 → 2 ≤ sz → sz ≤ 4 → shrI .u8 x 4 = k → iaArr 16 2 (.ip glob1) (.int .u8 k) = some (.ip [.int .u8 lo, .int .u8 hi]) → IntKind.wrap .i64 (andI .u8 x 7) = sz →
      x % 8 = sz → accLo (x / 16) = lo → accHi (x / 16) = hi → ∃ X st', unicode_utf8_decodeRuneInStringSlow.b t st = some ⟨.ret (.tup [.int .i32 X, .int .i64 ((dec t 0).2 : Nat)]), none, st'⟩ ∧ Keeps st.length st st' := by
    intro x k lo hi sz hx hx' h1 h2 h3 h4 h5 h6 h7 h8
    have := slow_core t st ht x k lo hi sz hx hx' h1 h2 h3 h4 h5
    have e := slow_eq t.size (bat t 0) (bat t 1) (bat t 2) (bat t 3) (by omega) (bat_lt _ _) (bat_lt _ _) (bat_lt _ _) (by rw [hx]; exact hx')
    rw [hx, h6, h7, h8, ← hd] at e
    rwa [e] at this
  by_cases h241 : firstT (bat t 0) = 241
  · have hbad := bad_eq t.size (bat t 0) (bat t 1) (bat t 2) (bat t 3) h0 h241
    rw [← hd] at hbad
    have e1 : ¬ ((t.size : Int) < 1) := by omega
    have hp1 : ld false 1 st (.ip [.int .u8 (241 : Int)]) = some (.int .u8 (241 : Int)) := by simp [ld, ldCells, pack]
    rw [unicode_utf8_decodeRuneInStringSlow.b_eq]
    simp only [e1, decide_false, cond_false, idx0 ht, Option.bind_some, byt_bat, first_at _ h0, h241, show ((241 : Nat) : Int) = 241 from rfl, hp1, asI, if_true, Go.St.asInt, show decide ((240 : Int) ≤ 241) = true from rfl, cond_true, hbad]
    exact ⟨_, _, rfl, Keeps.refl _ _⟩
  · have hlow : firstT (bat t 0) < 240 := by
      revert h241
      unfold firstT
      repeat' split
      all_goals omega
    rcases firstT_low hlow with h | h | h | h | h | h | h
    · exact core 2 0 128 191 2 (firstT_C2 h) (by decide) (by decide) (by decide) (by decide) rfl (by decide) rfl rfl rfl
    · exact core 19 1 160 191 3 (firstT_E0 h) (by decide) (by decide) (by decide) (by decide) rfl (by decide) rfl rfl rfl
    · exact core 3 0 128 191 3 (firstT_E1 h) (by decide) (by decide) (by decide) (by decide) rfl (by decide) rfl rfl rfl
    · exact core 35 2 128 159 3 (firstT_ED h) (by decide) (by decide) (by decide) (by decide) rfl (by decide) rfl rfl rfl
    · exact core 52 3 144 191 4 (firstT_F0 h) (by decide) (by decide) (by decide) (by decide) rfl (by decide) rfl rfl rfl
    · exact core 4 0 128 191 4 (firstT_F1 h) (by decide) (by decide) (by decide) (by decide) rfl (by decide) rfl rfl rfl
    · exact core 68 4 128 143 4 (firstT_F4 h) (by decide) (by decide) (by decide) (by decide) rfl (by decide) rfl rfl rfl

theorem rune_spec (t : ByteArray) (st : Sto) (ht : 0 < t.size) : ∃ X, CallR ap 41 [.str t] st = some (.ret (.tup [.int .i32 X, .int .i64 ((dec t 0).2 : Nat)]), st) := by
  have hne : ¬ t = (⟨#[]⟩ : ByteArray) := by
    rintro rfl
    exact absurd ht (by decide)
  by_cases hb : bat t 0 < 128
  · have hd := dec_eq t 0
    simp only [Nat.sub_zero, Nat.zero_add] at hd
    have hb' : ((bat t 0 : Int) < 128) := by omega
    have he : dec t 0 = (bat t 0, 1) := by rw [hd]; simp only [decodeN, hb, if_true]
    refine ⟨IntKind.wrap .i32 (bat t 0 : Int), ?_⟩
    rw [unicode_utf8_DecodeRuneInString.call]
    refine ret_keep ?_ rfl rfl (Keeps.refl _ _)
    rw [unicode_utf8_DecodeRuneInString.b_eq]
    simp only [hne, decide_false, Bool.not_false, cond_true, idx0 ht, Option.bind_some, byt_bat, hb', decide_true, unicode_utf8_DecodeRuneInString.p101_eq, he]
    rfl
  · obtain ⟨X, hX⟩ := slow_spec t st ht (by omega)
    have hb' : ¬ ((bat t 0 : Int) < 128) := by omega
    refine ⟨X, ?_⟩
    rw [unicode_utf8_DecodeRuneInString.call]
    refine ret_keep ?_ rfl rfl (Keeps.refl _ _)
    rw [unicode_utf8_DecodeRuneInString.b_eq]
    simp only [hne, decide_false, Bool.not_false, cond_true, idx0 ht, Option.bind_some, byt_bat, hb', unicode_utf8_DecodeRuneInString.p101_eq, cond_false, hX, Out.on, ext]
    rfl

/-! ### Valid -/
def validOut : Option Nat → AV
  | none => .tup [.int .i64 0, .int .i64 0]
  | some a => .tup [.int .i64 (a : Nat), .int .i64 300]
theorem validOut_strip (n : Nat) (r : Option Nat) : (validOut r).strip n = validOut r := by cases r <;> rfl
theorem validOut_old (n : Nat) (r : Option Nat) : (validOut r).old n = true := by cases r <;> rfl

theorem next_at {s : ByteArray} {i id : Nat} {st : Sto} (h : st[id]? = some (.iter s i)) (hi : i < s.size) :
    nextA (.it id) true st = some (.tup [.bool true, .int .i64 (i : Int), .int .i32 ((dec s i).1 : Nat)], st.set id (.iter s (i + (dec s i).2))) := by
  simp only [nextA, h, if_true, hi, dec]
theorem next_end {s : ByteArray} {id : Nat} {st : Sto} (h : st[id]? = some (.iter s s.size)) : nextA (.it id) true st = some (.tup [.bool false], st) := by
  simp only [nextA, h, if_true, Nat.lt_irrefl, if_false]

theorem bad_iff (s : ByteArray) (i : Nat) : Bad s i ↔ (dec s i).1 = 65533 ∧ (dec s i).2 = 1 := by
  have hd := dec_eq s i
  unfold Bad
  rcases decodeN_cases (s.size - i) (bat s i) (bat s (i + 1)) (bat s (i + 2)) (bat s (i + 3)) (bat_lt _ _) with ⟨h0, h⟩ | ⟨h0, h⟩ | h
  · rw [hd, h]; simp only; omega
  · rw [hd, h]; simp only [h0, and_self]
  · rw [← hd] at h; omega

theorem utf_loop {s : ByteArray} (hs : s.size < 9223372036854775800) {i : Nat} {r : Option Nat} (h : Scan s i r) (n id : Nat) (hn : n ≤ id) : ∀ st : Sto, st[id]? = some (.iter s i) →
    ∃ st', utf_Valid.p10100 s (.it id) st = some ⟨.ret (validOut r), none, st'⟩ ∧ Keeps n st st' := by
  induction h with
  | done i h =>
    intro st hst
    rw [h] at hst
    rw [utf_Valid.p10100_eq]
    simp only [next_end hst, Option.bind_some, ext, List.getElem?_cons_zero, asB, cond_false]
    exact ⟨_, rfl, Keeps.refl _ _⟩
  | bad i h hb =>
    intro st hst
    obtain ⟨b1, b2⟩ := (bad_iff s i).1 hb
    have hx : bnd 0 s.size (some (.int .i64 (i : Int))) = some i := by simp [bnd]; omega
    obtain ⟨X, hX⟩ := rune_spec (s.extract i s.size) (st.set id (.iter s (i + (dec s i).2))) (by simp [ByteArray.size_extract]; omega)
    rw [utf_Valid.p10100_eq]
    simp only [next_at hst h, Option.bind_some, ext, List.getElem?_cons_zero, List.getElem?_cons_succ, asB, cond_true, asI, if_true, b1, show decide (((65533 : Nat) : Int) = 65533) = true from rfl, hx]
    rw [b2] at hX ⊢
    simp only [hX, Option.bind_some, Out.on, dec_extract (Nat.le_of_lt h), b2, show decide (((1 : Nat) : Int) = 1) = true from rfl, cond_true, if_true]
    exact ⟨_, rfl, Keeps.set hn⟩
  | step i r h hb k ih =>
    intro st hst
    have hid : id < st.length := (List.getElem?_eq_some_iff.1 hst).1
    have hset : (st.set id (.iter s (i + (dec s i).2)))[id]? = some (.iter s (i + (dec s i).2)) := List.getElem?_set_self hid
    obtain ⟨st', h1, h2⟩ := ih _ hset
    refine ⟨st', ?_, (Keeps.set hn).trans h2⟩
    rw [utf_Valid.p10100_eq]
    simp only [next_at hst h, Option.bind_some, ext, List.getElem?_cons_zero, List.getElem?_cons_succ, asB, cond_true, asI, if_true]
    by_cases b1 : (((dec s i).1 : Nat) : Int) = 65533
    · have b2 : ¬ (((dec s i).2 : Nat) : Int) = 1 := fun hh => hb ((bad_iff s i).2 ⟨by omega, by omega⟩)
      have hx : bnd 0 s.size (some (.int .i64 (i : Int))) = some i := by simp [bnd]; omega
      obtain ⟨X, hX⟩ := rune_spec (s.extract i s.size) (st.set id (.iter s (i + (dec s i).2))) (by simp [ByteArray.size_extract]; omega)
      rw [dec_extract (Nat.le_of_lt h)] at hX
      simp only [b1, decide_true, cond_true, hx, Option.bind_some, hX, Out.on, List.getElem?_cons_zero, List.getElem?_cons_succ, b2, decide_false, cond_false, if_true]
      exact h1
    · simp only [b1, decide_false, cond_false]
      exact h1

theorem valid_spec {s : ByteArray} (hs : s.size < 9223372036854775800) {r : Option Nat} (h : Scan s 0 r) (st : Sto) : CallR ap 29 [.str s] st = some (.ret (validOut r), st) := by
  obtain ⟨st', h1, h2⟩ := utf_loop hs h st.length st.length (Nat.le_refl _) (st ++ [.iter s 0]) (by simp)
  rw [utf_Valid.call]
  refine ret_keep ?_ (validOut_strip _ _) (validOut_old _ _) ((Keeps.app (Nat.le_refl _)).trans h2)
  rw [utf_Valid.b_eq]
  exact h1


/-! ## Names, and the laws of layer 3. -/
set_option maxRecDepth 100000 in
theorem okAt_mid (s : ByteArray) (q : Nat) (st : Sto) (n : Int) (i : Nat) :
    (bif decide ((97 : Int) ≤ (bat s i : Int)) then utf_spelt.p101001100111 s (q : Int) (i : Int) (bat s i : Int) (decide ((bat s i : Int) ≤ 122)) n (i : Int) st else utf_spelt.p101001100111 s (q : Int) (i : Int) (bat s i : Int) false n (i : Int) st)
      = utf_spelt.p1010011001111 s (q : Int) n (i : Int) (!okAt s q i) st := by
  have e1 : ((97 : Int) ≤ (bat s i : Int)) = (97 ≤ bat s i) := propext ⟨fun h => by omega, fun h => by omega⟩
  have e2 : ((bat s i : Int) ≤ 122) = (bat s i ≤ 122) := propext ⟨fun h => by omega, fun h => by omega⟩
  have e3 : ((i : Int) = 0) = (i = 0) := propext ⟨fun h => by omega, fun h => by omega⟩
  have e4 : ((bat s i : Int) = (q : Int)) = (bat s i = q) := propext ⟨fun h => by omega, fun h => by omega⟩
  have e5 : ((bat s i : Int) < 48) = (bat s i < 48) := propext ⟨fun h => by omega, fun h => by omega⟩
  have e6 : ((57 : Int) < (bat s i : Int)) = (57 < bat s i) := propext ⟨fun h => by omega, fun h => by omega⟩
  have key : ∀ x : Bool, x = (!okAt s q i) → utf_spelt.p1010011001111 s (q : Int) n (i : Int) x st = utf_spelt.p1010011001111 s (q : Int) n (i : Int) (!okAt s q i) st := by rintro x rfl; rfl
  simp only [e1, e2, e3, e4, e5, e6, utf_spelt.p101001100111_eq, Bool.cond_not, Bool.cond_decide, cond_false]
  repeat' split
  all_goals refine key _ ?_
  all_goals unfold okAt
  all_goals rw [Bool.eq_iff_iff]
  all_goals simp only [true_iff, false_iff, Bool.not_eq_true', Bool.not_eq_false', Bool.or_eq_false_iff, Bool.and_eq_false_iff, Bool.or_eq_true, Bool.and_eq_true, decide_eq_true_eq, decide_eq_false_iff_not, Bool.false_eq_true, ne_eq, Bool.not_true, Bool.not_false]
  all_goals omega

theorem spelt_loop (s : ByteArray) (hs : s.size < 9223372036854775800) (q : Nat) (st : Sto) : ∀ m i : Nat, i + m = s.size →
    utf_spelt.p10100 s (q : Int) (s.size : Nat) (i : Int) st = some ⟨.ret (.bool (allOk s q m i && (decide (1 ≤ s.size) && decide (s.size ≤ 32)))), none, st⟩ := by
  intro m
  induction m with
  | zero =>
    intro i h
    obtain rfl : i = s.size := by omega
    rw [utf_spelt.p10100_eq]
    have e1 : ((0 : Int) < (s.size : Int)) = (1 ≤ s.size) := propext ⟨fun h => by omega, fun h => by omega⟩
    have e2 : ((s.size : Int) ≤ 32) = (s.size ≤ 32) := propext ⟨fun h => by omega, fun h => by omega⟩
    simp only [Int.lt_irrefl, decide_false, cond_false, e1, e2, allOk, Bool.true_and]
    by_cases h1 : 1 ≤ s.size
    · simp [h1]
    · simp [h1]
  | succ m ih =>
    intro i h
    have hi : i < s.size := by omega
    have hlt : (i : Int) < ((s.size : Nat) : Int) := by omega
    have wi : IntKind.wrap .i64 ((i : Int) + 1) = ((i + 1 : Nat) : Int) := w64 _ (by omega) (by omega)
    rw [utf_spelt.p10100_eq]
    simp only [hlt, decide_true, cond_true, idx_nat hi, Option.bind_some, byt_bat]
    rw [okAt_mid, utf_spelt.p1010011001111_eq, wi, allOk, ih (i + 1) (by omega)]
    cases okAt s q i <;> simp

theorem spelt_spec (s : ByteArray) (hs : s.size < 9223372036854775800) (q : Nat) (st : Sto) : CallR ap 58 [.str s, .int .u8 (q : Int)] st = some (.ret (.bool (wordB s q)), st) := by
  rw [utf_spelt.call]
  refine ret_keep ?_ rfl rfl (Keeps.refl _ _)
  rw [utf_spelt.b_eq]
  have := spelt_loop s hs q st s.size 0 (by omega)
  rw [show ((0 : Int)) = ((0 : Nat) : Int) from rfl, this]
  unfold wordB
  rw [Bool.and_comm]

theorem tag_spec (s : ByteArray) (hs : s.size < 9223372036854775800) (st : Sto) : CallR ap 55 [.str s] st = some (.ret (.bool (wordB s 45)), st) := by
  rw [utf_Tag.call]
  refine ret_keep ?_ rfl rfl (Keeps.refl _ _)
  rw [utf_Tag.b_eq, show ((45 : Int)) = ((45 : Nat) : Int) from rfl, spelt_spec s hs 45 st]
  rfl
end Go.Proofs.YtcgepgahgihojaaDoor
