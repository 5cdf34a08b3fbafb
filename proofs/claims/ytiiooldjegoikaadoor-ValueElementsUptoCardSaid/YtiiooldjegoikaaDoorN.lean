/- Names: rows of texts, sorted; a name twice. -/
import Derived.Test.YtiiooldjegoikaaDoorR
namespace Go.Proofs.YtiiooldjegoikaaDoor
open Go.St Go.Lib
set_option linter.unusedVariables false
set_option linter.unusedSimpArgs false

/-! ### The order of texts -/
theorem bl_irr : ∀ a : List UInt8, Op.bytesLess a a = false := by
  intro a
  induction a with
  | nil => rfl
  | cons x r ih => simp [Op.bytesLess, ih]
theorem bl_trans : ∀ a b c : List UInt8, Op.bytesLess a b = true → Op.bytesLess b c = true → Op.bytesLess a c = true := by
  intro a
  induction a with
  | nil =>
    intro b c h k
    cases b with
    | nil => simp [Op.bytesLess] at h
    | cons y s => cases c with
      | nil => simp [Op.bytesLess] at k
      | cons z t => rfl
  | cons x r ih =>
    intro b c h k
    cases b with
    | nil => simp [Op.bytesLess] at h
    | cons y s => cases c with
      | nil => simp [Op.bytesLess] at k
      | cons z t =>
        simp only [Op.bytesLess, Bool.or_eq_true, Bool.and_eq_true, decide_eq_true_eq, beq_iff_eq] at h k ⊢
        rcases h with h | ⟨rfl, h⟩
        · rcases k with k | ⟨rfl, k⟩
          · exact .inl (UInt8.lt_trans h k)
          · exact .inl h
        · rcases k with k | ⟨rfl, k⟩
          · exact .inl k
          · exact .inr ⟨rfl, ih _ _ h k⟩
theorem bl_total : ∀ a b : List UInt8, Op.bytesLess a b = true ∨ a = b ∨ Op.bytesLess b a = true := by
  intro a
  induction a with
  | nil => intro b; cases b with
    | nil => exact .inr (.inl rfl)
    | cons y s => exact .inl rfl
  | cons x r ih => intro b; cases b with
    | nil => exact .inr (.inr rfl)
    | cons y s =>
      simp only [Op.bytesLess, Bool.or_eq_true, Bool.and_eq_true, decide_eq_true_eq, beq_iff_eq]
      by_cases h : x < y
      · exact .inl (.inl h)
      · by_cases h2 : x = y
        · subst h2
          rcases ih s with h | h | h
          · exact .inl (.inr ⟨rfl, h⟩)
          · exact .inr (.inl (by rw [h]))
          · exact .inr (.inr (.inr ⟨rfl, h⟩))
        · have h3 : y < x := by
            rw [UInt8.lt_iff_toNat_lt] at h ⊢
            have : x.toNat ≠ y.toNat := fun e => h2 (UInt8.toNat_inj.1 e)
            omega
          exact .inr (.inr (.inl h3))

theorem ba_eq {a b : ByteArray} (h : a.data.toList = b.data.toList) : a = b := ByteArray.ext (Array.ext' h)
/-- In order. -/
def Le (a b : ByteArray) : Prop := sLess a b = true ∨ a = b
theorem Le.trans {a b c : ByteArray} (h : Le a b) (k : Le b c) : Le a c := by
  rcases h with h | rfl
  · rcases k with k | rfl
    · exact .inl (bl_trans _ _ _ h k)
    · exact .inl h
  · exact k
theorem Le.anti {a b : ByteArray} (h : Le a b) (k : Le b a) : a = b := by
  rcases h with h | rfl
  · rcases k with k | rfl
    · have := bl_trans _ _ _ h k
      rw [bl_irr] at this
      cases this
    · rfl
  · rfl
theorem Le.total {a b : ByteArray} (h : ¬ Le a b) : Le b a := by
  rcases bl_total a.data.toList b.data.toList with k | k | k
  · exact absurd (.inl k) h
  · exact .inr (ba_eq k.symm)
  · exact .inl k
theorem le_dec (a b : ByteArray) : (sLess a b || decide (a = b)) = true ↔ Le a b := by simp [Le]

abbrev Srt (l : List ByteArray) : Prop := l.Pairwise Le

/-- Does a text stand beside itself, from the second on? -/
def twins : List ByteArray → Bool
  | x :: y :: r => decide (x = y) || twins (y :: r)
  | _ => false
theorem twins_spec : ∀ l : List ByteArray, Srt l → (twins l = true ↔ ¬ l.Nodup)
  | [], _ => by simp [twins]
  | [x], _ => by simp [twins]
  | x :: y :: r, h => by
    have h1 : ∀ z ∈ y :: r, Le x z := (List.pairwise_cons.1 h).1
    have h2 : Srt (y :: r) := (List.pairwise_cons.1 h).2
    have ih := twins_spec (y :: r) h2
    simp only [twins, Bool.or_eq_true, decide_eq_true_eq, ih, List.nodup_cons]
    constructor
    · rintro (h | h)
      · subst h
        simp
      · exact fun hh => h hh.2
    · intro hh
      by_cases hx : x = y
      · exact .inl hx
      · right
        intro hnd
        apply hh
        refine ⟨fun hmem => ?_, hnd⟩
        rcases List.mem_cons.1 hmem with he | he
        · exact hx he
        · have ha := h1 y (by simp)
          have hb := (List.pairwise_cons.1 h2).1 x he
          exact hx (ha.anti hb)

/-! ### Rows of texts -/
def ncells (l : List ByteArray) : List AV := l.map AV.str
def nsz : List ByteArray → Nat
  | [] => 0
  | x :: r => x.size + 1 + nsz r
theorem nsz_len (l : List ByteArray) : l.length ≤ nsz l := by
  induction l with
  | nil => simp
  | cons x r ih => simp only [List.length_cons, nsz]; omega
theorem nsz_mem {l : List ByteArray} {x : ByteArray} (h : x ∈ l) : x.size + 1 ≤ nsz l := by
  induction l with
  | nil => simp at h
  | cons y r ih =>
    simp only [nsz]
    rcases List.mem_cons.1 h with rfl | h
    · omega
    · have := ih h; omega
theorem ncells_len (l : List ByteArray) : (ncells l).length = l.length := by simp [ncells]
theorem ncells_app (a b : List ByteArray) : ncells (a ++ b) = ncells a ++ ncells b := by simp [ncells]

def NamV (l : List ByteArray) (v : AV) : Prop := (l = [] ∧ v = .nils) ∨ ∃ rest tok, v = .is (ncells l ++ rest) l.length tok ∧ (ncells l ++ rest).length = tok.most l.length

theorem NamV.len {l : List ByteArray} {v : AV} (h : NamV l v) : lenL v = some l.length := by
  rcases h with ⟨rfl, rfl⟩ | ⟨rest, tok, rfl, _⟩ <;> rfl
theorem NamV.cell {l : List ByteArray} {v : AV} (h : NamV l v) : v.isCell = true := by
  rcases h with ⟨rfl, rfl⟩ | ⟨rest, tok, rfl, _⟩ <;> rfl
theorem NamV.cells {l : List ByteArray} {v : AV} (h : NamV l v) : v.cells = [v] := by
  rcases h with ⟨rfl, rfl⟩ | ⟨rest, tok, rfl, _⟩ <;> rfl
theorem NamV.tail {l : List ByteArray} {v : AV} (h : NamV l v) (st : Sto) : tailOf false 1 st v = some (ncells l, l.length) := by
  rcases h with ⟨rfl, rfl⟩ | ⟨rest, tok, rfl, _⟩
  · rfl
  · have hl := ncells_len l
    simp only [tailOf, Bool.false_eq_true, if_false, rowOf, List.length_append, hl, Nat.mul_one]
    by_cases h0 : rest = []
    · subst h0
      simp
    · have : 0 < rest.length := by cases rest with
        | nil => exact absurd rfl h0
        | cons => simp
      rw [if_neg (by omega), if_pos (by omega), ← hl, List.take_left]
      rfl
/-- The i-th name. -/
theorem nam_at {pre suf : List ByteArray} {x : ByteArray} {v : AV} (h : NamV (pre ++ x :: suf) v) {i : Int} (hi : i = (pre.length : Nat)) : ia 1 v (.int .i64 i) = some (.ip [.str x]) := by
  subst hi
  rcases h with ⟨h, _⟩ | ⟨rest, tok, rfl, _⟩
  · simp at h
  · have hlt : pre.length < (pre ++ x :: suf).length := by simp
    have hc : (pre.length + 1) * 1 ≤ (ncells (pre ++ x :: suf) ++ rest).length := by
      rw [List.length_append, ncells_len]; simp; omega
    simp only [ia, idx_nat hlt, Option.bind_some, hc, if_true]
    rw [ncells_app, List.append_assoc, Nat.mul_one]
    have hn := ncells_len pre
    rw [show List.drop pre.length (ncells pre ++ (ncells (x :: suf) ++ rest)) = List.drop (ncells pre).length (ncells pre ++ (ncells (x :: suf) ++ rest)) by rw [hn], List.drop_left]
    rfl

theorem NamV.mk (l : List ByteArray) (tok : Tok) (h : tok.most l.length = l.length) : NamV l (.is (ncells l) l.length tok) := .inr ⟨[], tok, by simp, by simp [ncells_len, h]⟩
theorem most_part {tok : Tok} {len l h : Nat} (h1 : l ≤ h) (h2 : h ≤ tok.most len) : (tok.part len h l).most (h - l) = tok.most len - l ∨ (tok.part len h l).most (h - l) + l = tok.most len := by
  have : ∀ t : Tok, (∀ n, t ≠ .cut n) → h ≤ len → ((if h = len then t else Tok.cut (len - l)).most (h - l)) + l = len := by
    intro t ht hh
    have hm : ∀ n, t.most n = n := fun n => by cases t <;> first | rfl | exact absurd rfl (ht _)
    split
    · rw [hm]; omega
    · simp only [Tok.most]; omega
  cases tok with
  | cut n => simp only [Tok.part, Tok.most] at *; omega
  | no => exact .inr (this .no (by simp) h2)
  | full => exact .inr (this .full (by simp) h2)
  | tip i g es => exact .inr (this (.tip i g es) (by simp) h2)

/-- A row cut. -/
theorem nam_cut {a b : List ByteArray} {c : List ByteArray} {v : AV} (h : NamV (a ++ b ++ c) v) {lo hi : Option AV} (hlo : ∀ m, a.length ≤ m → bnd 0 m lo = some a.length) (hhi : ∀ m, (a ++ b ++ c).length ≤ m → bnd (a ++ b ++ c).length m hi = some (a ++ b).length) :
    ∃ w, cutL 1 v lo hi = some w ∧ NamV b w := by
  rcases h with ⟨h, rfl⟩ | ⟨rest, tok, rfl, hr⟩
  · simp only [List.append_eq_nil_iff] at h
    obtain ⟨⟨rfl, rfl⟩, rfl⟩ := h
    have h1 := hhi 0 (by simp)
    have h2 := hlo 0 (by simp)
    simp only [List.append_nil, List.length_nil] at h1 h2
    exact ⟨.nils, by simp [cutL, h1, h2], .inl ⟨rfl, rfl⟩⟩
  · have hm : (a ++ b ++ c).length ≤ tok.most (a ++ b ++ c).length := by
      rw [← hr]; simp only [List.length_append, ncells_len]; omega
    have h1 := hhi _ hm
    have h2 := hlo (a ++ b).length (by simp)
    refine ⟨.is ((ncells (a ++ b ++ c) ++ rest).drop (a.length * 1)) ((a ++ b).length - a.length) (tok.part (a ++ b ++ c).length (a ++ b).length a.length), ?_, .inr ⟨ncells c ++ rest, tok.part (a ++ b ++ c).length (a ++ b).length a.length, ?_, ?_⟩⟩
    · simp only [cutL, h1, h2, Option.bind_some, hr, Nat.mul_one, if_true]
    · have e1 : (a ++ b).length - a.length = b.length := by simp
      have e2 : (ncells (a ++ b ++ c) ++ rest).drop (a.length * 1) = ncells b ++ (ncells c ++ rest) := by
        rw [ncells_app, ncells_app, Nat.mul_one, List.append_assoc, List.append_assoc, show List.drop a.length (ncells a ++ (ncells b ++ (ncells c ++ rest))) = List.drop (ncells a).length (ncells a ++ (ncells b ++ (ncells c ++ rest))) by rw [ncells_len], List.drop_left]
      rw [e1, e2]
    · have hp := most_part (tok := tok) (len := (a ++ b ++ c).length) (l := a.length) (h := (a ++ b).length) (by simp) (by simp at hm ⊢; omega)
      have e1 : (a ++ b).length - a.length = b.length := by simp
      rw [e1] at hp
      simp only [List.length_append, ncells_len] at hr hp ⊢
      omega

/-- What is told of one text behind a row: as 'append' makes it. -/
theorem nam_add {n : Nat} {st : Sto} {acc : List ByteArray} {x : AV} {y : ByteArray} {v : AV} (hl : acc.length ≤ 2000000) (hn : n ≤ st.length) (hx : (x = .nils ∧ acc = []) ∨ ∃ i g, n ≤ i ∧ x = .is (ncells acc) acc.length (.tip i g 1) ∧ st[i]? = some (.tip g)) :
    ∃ i g st', appL false false 1 16 x (.is [.str y] 1 .full) st = some (.is (ncells (acc ++ [y])) (acc ++ [y]).length (.tip i g 1), st') ∧ n ≤ i ∧ st'[i]? = some (.tip g) ∧ Keeps n st st' ∧ n ≤ st'.length := by
  have ht : tailOf false 1 st (.is [.str y] 1 .full) = some ([.str y], 1) := rfl
  have hroom : room 16 (acc.length + 1) = true := by simp [room]; omega
  have e1 : ncells (acc ++ [y]) = ncells acc ++ [.str y] := ncells_app _ _
  have e2 : (acc ++ [y]).length = acc.length + 1 := by simp
  have hc := ncells_len acc
  unfold appL
  simp only [ht, Option.bind_some, e1, e2]
  rcases hx with ⟨rfl, rfl⟩ | ⟨i, g, hi, rfl, hst⟩
  · simp only [List.length_nil, Nat.zero_add] at hroom
    simp only [show ¬ (1 = 0) by omega, if_false, hroom, if_true, Bool.false_eq_true, List.length_nil, Nat.zero_add, ncells, List.map_nil, List.nil_append]
    exact ⟨_, _, _, rfl, hn, by simp, Keeps.app hn, by simp; omega⟩
  · simp only [hc, Nat.mul_one, true_and, hroom, if_true, hst]
    refine ⟨_, _, _, rfl, hi, ?_, Keeps.set hi, by simpa using hn⟩
    rw [List.getElem?_set_self (List.getElem?_eq_some_iff.1 hst).1]

theorem nam_one (y : ByteArray) (st : Sto) : (litS false 1 1 (fillA (fun i => some (i * 1, 1)) [.str ⟨#[]⟩] [(0, (.str y))]) st) = some (.is [.str y] 1 .full, st) := rfl
theorem nam_first {y : ByteArray} {r : List ByteArray} {v : AV} (h : NamV (y :: r) v) : ia 1 v (.int .i64 0) = some (.ip [.str y]) := nam_at (pre := []) h rfl
theorem nam_drop {y : ByteArray} {r : List ByteArray} {v : AV} (h : NamV (y :: r) v) : ∃ w, cutL 1 v (some (.int .i64 1)) none = some w ∧ NamV r w := by
  refine nam_cut (a := [y]) (b := r) (c := []) (by simpa using h) (fun m hm => ?_) (fun m hm => ?_)
  · simp only [List.length_cons, List.length_nil, Nat.zero_add] at hm ⊢
    simp only [bnd]
    rw [if_pos (by omega)]
    rfl
  · simp [bnd]
theorem ld1 (x : AV) (st : Sto) : ld false 1 st (.ip [x]) = some x := rfl

/-- Two rows made one. -/
theorem merge_spec (n : Nat) : ∀ (m : Nat) (a b acc : List ByteArray), a.length + b.length = m → acc.length + m ≤ 1050000 → Srt a → Srt b → Srt acc → (∀ x ∈ acc, ∀ y ∈ a ++ b, Le x y) →
    ∀ (va vb x : AV) (st : Sto), NamV a va → NamV b vb → n ≤ st.length → ((x = .nils ∧ acc = []) ∨ ∃ i g, n ≤ i ∧ x = .is (ncells acc) acc.length (.tip i g 1) ∧ st[i]? = some (.tip g)) →
    ∃ (l : List ByteArray) (w : AV) (st' : Sto), stencilref5_Sorted.p11111000 va vb x st = some ⟨.ret w, none, st'⟩ ∧ Keeps n st st' ∧ l.Perm (acc ++ (a ++ b)) ∧ Srt l ∧ (w = .nils ∧ l = [] ∨ ∃ i g, n ≤ i ∧ w = .is (ncells l) l.length (.tip i g 1)) := by
  intro m
  induction m with
  | zero =>
    intro a b acc hm hl ha hb hacc hle va vb x st hva hvb hn hx
    obtain rfl : a = [] := List.eq_nil_of_length_eq_zero (by omega)
    obtain rfl : b = [] := List.eq_nil_of_length_eq_zero (by omega)
    refine ⟨acc, x, st, ?_, Keeps.refl _ _, by simp, hacc, ?_⟩
    · rw [stencilref5_Sorted.p11111000_eq]
      simp only [hva.len, hvb.len, Option.bind_some, List.length_nil, Int.natCast_zero, Int.lt_irrefl, decide_false, cond_false, stencilref5_Sorted.p1111100001_eq]
    · rcases hx with ⟨h1, h2⟩ | ⟨i, g, h1, h2, _⟩
      · exact .inl ⟨h1, h2⟩
      · exact .inr ⟨i, g, h1, h2⟩
  | succ m ih =>
    intro a b acc hm hl ha hb hacc hle va vb x st hva hvb hn hx
    -- the first of a goes
    have fromA : ∀ (y : ByteArray) (r : List ByteArray), a = y :: r → (∀ z ∈ b, Le y z) → ∃ (l : List ByteArray) (w : AV) (st' : Sto), stencilref5_Sorted.p11111000101 va vb x true st = some ⟨.ret w, none, st'⟩ ∧ Keeps n st st' ∧ l.Perm (acc ++ (a ++ b)) ∧ Srt l ∧ (w = .nils ∧ l = [] ∨ ∃ i g, n ≤ i ∧ w = .is (ncells l) l.length (.tip i g 1)) := by
      rintro y r rfl hyb
      obtain ⟨i, g, st1, k1, k2, k3, k4, k5⟩ := nam_add (y := y) (v := .nils) (by omega) hn hx
      obtain ⟨v2, c1, c2⟩ := nam_drop hva
      have hyr := List.pairwise_cons.1 ha
      obtain ⟨l, w, st2, e1, e2, e3, e4, e5⟩ := ih r b (acc ++ [y]) (by simp at hm; omega) (by simp at hm ⊢; omega) hyr.2 hb
        (List.pairwise_append.2 ⟨hacc, by simp, fun p hp q hq => by simp at hq; subst hq; exact hle p hp q (by simp)⟩)
        (fun p hp q hq => by
          rcases List.mem_append.1 hp with hp | hp
          · exact hle p hp q (by rcases List.mem_append.1 hq with h | h <;> simp [h])
          · simp at hp; subst hp
            rcases List.mem_append.1 hq with h | h
            · exact hyr.1 q h
            · exact hyb q h) v2 vb _ st1 c2 hvb k5 (.inr ⟨i, g, k2, rfl, k3⟩)
      refine ⟨l, w, st2, ?_, k4.trans e2, e3.trans (by simp), e4, e5⟩
      rw [stencilref5_Sorted.p11111000101_eq]
      simp only [cond_true, nam_first hva, ld1, Option.bind_some, nam_one, k1, c1, e1]
    have fromB : ∀ (y : ByteArray) (r : List ByteArray), b = y :: r → (∀ z ∈ a, Le y z) → ∃ (l : List ByteArray) (w : AV) (st' : Sto), stencilref5_Sorted.p11111000101 va vb x false st = some ⟨.ret w, none, st'⟩ ∧ Keeps n st st' ∧ l.Perm (acc ++ (a ++ b)) ∧ Srt l ∧ (w = .nils ∧ l = [] ∨ ∃ i g, n ≤ i ∧ w = .is (ncells l) l.length (.tip i g 1)) := by
      rintro y r rfl hya
      obtain ⟨i, g, st1, k1, k2, k3, k4, k5⟩ := nam_add (y := y) (v := .nils) (by omega) hn hx
      obtain ⟨v2, c1, c2⟩ := nam_drop hvb
      have hyr := List.pairwise_cons.1 hb
      obtain ⟨l, w, st2, e1, e2, e3, e4, e5⟩ := ih a r (acc ++ [y]) (by simp at hm; omega) (by simp at hm ⊢; omega) ha hyr.2
        (List.pairwise_append.2 ⟨hacc, by simp, fun p hp q hq => by simp at hq; subst hq; exact hle p hp q (by simp)⟩)
        (fun p hp q hq => by
          rcases List.mem_append.1 hp with hp | hp
          · exact hle p hp q (by rcases List.mem_append.1 hq with h | h <;> simp [h])
          · simp at hp; subst hp
            rcases List.mem_append.1 hq with h | h
            · exact hya q h
            · exact hyr.1 q h) va v2 _ st1 hva c2 k5 (.inr ⟨i, g, k2, rfl, k3⟩)
      refine ⟨l, w, st2, ?_, k4.trans e2, e3.trans ?_, e4, e5⟩
      · rw [stencilref5_Sorted.p11111000101_eq]
        simp only [cond_false, nam_first hvb, ld1, Option.bind_some, nam_one, k1, c1, e1]
      · rw [List.append_assoc]
        refine List.Perm.append_left acc ?_
        exact (List.perm_middle (l₁ := a) (l₂ := r) (a := y)).symm
    have key : ∃ (l : List ByteArray) (w : AV) (st' : Sto), stencilref5_Sorted.p1111100001 va vb x true st = some ⟨.ret w, none, st'⟩ ∧ Keeps n st st' ∧ l.Perm (acc ++ (a ++ b)) ∧ Srt l ∧ (w = .nils ∧ l = [] ∨ ∃ i g, n ≤ i ∧ w = .is (ncells l) l.length (.tip i g 1)) := by
      cases b with
      | nil =>
        cases a with
        | nil => simp at hm
        | cons y r =>
          obtain ⟨l, w, st', e⟩ := fromA y r rfl (by simp)
          refine ⟨l, w, st', ?_, e.2⟩
          rw [stencilref5_Sorted.p1111100001_eq]
          simp only [cond_true, hvb.len, Option.bind_some, List.length_nil, Int.natCast_zero, decide_true, e.1]
      | cons z s =>
        have hz : ¬ ((((z :: s).length : Nat) : Int) = 0) := by simp only [List.length_cons]; omega
        cases a with
        | nil =>
          obtain ⟨l, w, st', e⟩ := fromB z s rfl (by simp)
          refine ⟨l, w, st', ?_, e.2⟩
          rw [stencilref5_Sorted.p1111100001_eq]
          simp only [cond_true, hva.len, hvb.len, Option.bind_some, hz, decide_false, cond_false, List.length_nil, Int.natCast_zero, Int.lt_irrefl, e.1]
        | cons y r =>
          have hy : ((0 : Int) < (((y :: r).length : Nat) : Int)) := by simp only [List.length_cons]; omega
          have main : stencilref5_Sorted.p1111100001 va vb x true st = stencilref5_Sorted.p11111000101 va vb x (sLess y z || decide (y = z)) st := by
            rw [stencilref5_Sorted.p1111100001_eq]
            simp only [cond_true, hva.len, hvb.len, Option.bind_some, hz, hy, decide_false, decide_true, cond_false, nam_first hva, nam_first hvb, ld1, asS]
          rw [main]
          by_cases hle2 : Le y z
          · rw [(le_dec y z).2 hle2]
            exact fromA y r rfl fun q hq => by
              rcases List.mem_cons.1 hq with rfl | hq
              · exact hle2
              · exact hle2.trans ((List.pairwise_cons.1 hb).1 q hq)
          · have : (sLess y z || decide (y = z)) = false := by
              cases hh : (sLess y z || decide (y = z)) with
              | false => rfl
              | true => exact absurd ((le_dec y z).1 hh) hle2
            rw [this]
            have hzy := Le.total hle2
            exact fromB z s rfl fun q hq => by
              rcases List.mem_cons.1 hq with rfl | hq
              · exact hzy
              · exact hzy.trans ((List.pairwise_cons.1 ha).1 q hq)
    obtain ⟨l, w, st', e⟩ := key
    refine ⟨l, w, st', ?_, e.2⟩
    rw [stencilref5_Sorted.p11111000_eq]
    simp only [hva.len, hvb.len, Option.bind_some]
    cases a with
    | nil =>
      have hb2 : ((0 : Int) < ((b.length : Nat) : Int)) := by simp at hm; omega
      simp only [List.length_nil, Int.natCast_zero, Int.lt_irrefl, decide_false, cond_false, hb2, decide_true, e.1]
    | cons y r =>
      have hy : ((0 : Int) < (((y :: r).length : Nat) : Int)) := by simp only [List.length_cons]; omega
      simp only [hy, decide_true, cond_true, e.1]

theorem strips_ncells (n : Nat) (l : List ByteArray) : strips n (ncells l) = ncells l := by
  induction l with
  | nil => rfl
  | cons x r ih => simp only [ncells, List.map_cons, strips, AV.strip] at *; rw [ih]
theorem olds_ncells (n : Nat) (l : List ByteArray) : olds n (ncells l) = true := by
  induction l with
  | nil => rfl
  | cons x r ih => simp only [ncells, List.map_cons, olds, AV.old, Bool.true_and] at *; rw [ih]

/-- Behind a call whose row's tip is forgotten. -/
theorem ret_tip {b : Option Res} {l : List ByteArray} {i g : Nat} {st st' : Sto} (h : b = some ⟨.ret (.is (ncells l) l.length (.tip i g 1)), none, st'⟩) (hi : st.length ≤ i) (hk : Keeps st.length st st') :
    (b.bind fun r => some (gc st (r.out, r.st))) = some (.ret (.is (ncells l) l.length .no), st) := by
  rw [h]
  simp only [Option.bind_some]
  have e : (AV.is (ncells l) l.length (.tip i g 1)).strip st.length = .is (ncells l) l.length .no := by
    simp only [AV.strip, strips_ncells, Tok.strip]
    rw [if_neg (by omega)]
  unfold gc
  have hc : (((Out.ret (AV.is (ncells l) l.length (.tip i g 1))).val.strip st.length).old st.length = true ∧ st.length ≤ st'.length ∧ Kept st.length st st') := by
    refine ⟨?_, hk.len, fun i hi => .inl (hk.at_ i hi)⟩
    simp only [Out.val, e, AV.old, olds_ncells, Tok.old, Bool.and_self]
  rw [if_pos hc]
  have ht : st'.take st.length = st := by
    apply List.ext_getElem?
    intro j
    rw [List.getElem?_take]
    split
    · rename_i hj; exact hk.at_ j hj
    · rename_i hj; rw [List.getElem?_eq_none (by omega)]
  simp only [Out.map, e, ht]

theorem tdiv2 (n : Nat) (h : n ≤ 1050000) : IntKind.wrap .i64 (Int.tdiv ((n : Nat) : Int) 2) = ((n / 2 : Nat) : Int) := w64 _ (by
  rw [Int.tdiv_eq_ediv_of_nonneg (by omega)]; rfl) (by omega)

/-- Sorted. -/
theorem sorted_spec : ∀ (m : Nat) (l : List ByteArray) (v : AV) (st : Sto), l.length ≤ m → m ≤ 1050000 → NamV l v → ∃ (l' : List ByteArray) (tok : Tok), CallR ap 68 [v] st = some (.ret (.is (ncells l') l'.length tok), st) ∧ l'.Perm l ∧ Srt l' ∧ (tok = .no ∨ tok = .full) := by
  intro m
  induction m using Nat.strongRecOn with
  | ind m ih =>
    intro l v st hl hm hv
    rw [stencilref5_Sorted.call]
    by_cases h2 : l.length < 2
    · have h2' : (((l.length : Nat) : Int) < 2) := by omega
      have h0 : (litS false 0 1 (fillA (fun i => some (i * 1, 1)) [] []) st) = some (.is [] 0 .full, st) := rfl
      have hb := stencilref5_Sorted.b_eq v st
      simp only [hv.len, Option.bind_some, h2', decide_true, cond_true, h0, appL, hv.tail] at hb
      have hs : Srt l := by
        match l, h2 with
        | [], _ => exact List.Pairwise.nil
        | [x], _ => simp
        | x :: y :: r, h => simp at h; omega
      by_cases hz : l.length = 0
      · obtain rfl := List.eq_nil_of_length_eq_zero hz
        simp only [List.length_nil, if_true, Option.bind_some] at hb
        exact ⟨[], .full, ret_keep hb rfl rfl (Keeps.refl _ _), .refl _, hs, .inr rfl⟩
      · have hroom : room 16 l.length = true := by simp [room]; omega
        simp only [hz, if_false, List.length_nil, Nat.zero_mul, Nat.zero_add, hroom, and_self, if_true, Bool.false_eq_true, List.nil_append, Option.bind_some] at hb
        exact ⟨l, .no, ret_tip hb (Nat.le_refl _) (Keeps.app (Nat.le_refl _)), .refl _, hs, .inl rfl⟩
    · have h2' : ¬ (((l.length : Nat) : Int) < 2) := by omega
      have hd := tdiv2 l.length (by omega)
      have hlt : l.length / 2 < l.length := by omega
      have e1 : (l.take (l.length / 2)).length = l.length / 2 := by simp; omega
      have e2 : (l.drop (l.length / 2)).length = l.length - l.length / 2 := by simp
      have es : l.take (l.length / 2) ++ l.drop (l.length / 2) = l := List.take_append_drop _ _
      obtain ⟨va, a1, a2⟩ := nam_cut (a := []) (b := l.take (l.length / 2)) (c := l.drop (l.length / 2)) (v := v) (by simpa [es] using hv) (lo := none) (hi := some (.int .i64 ((l.length / 2 : Nat) : Int))) (fun m hm => rfl) (fun m hm => by
        simp only [List.nil_append, es, e1] at hm ⊢
        simp only [bnd]
        rw [if_pos (by omega)]
        simp
        omega)
      obtain ⟨vb, b1, b2⟩ := nam_cut (a := l.take (l.length / 2)) (b := l.drop (l.length / 2)) (c := []) (v := v) (by simpa [es] using hv) (lo := some (.int .i64 ((l.length / 2 : Nat) : Int))) (hi := none) (fun m hm => by
        simp only [e1] at hm ⊢
        simp only [bnd]
        rw [if_pos (by omega)]
        simp
        omega) (fun m hm => by simp [bnd])
      obtain ⟨la, ta, p1, p2, p3, p4⟩ := ih (l.length - 1) (by omega) (l.take (l.length / 2)) va st (by omega) (by omega) a2
      obtain ⟨lb, tb, q1, q2, q3, q4⟩ := ih (l.length - 1) (by omega) (l.drop (l.length / 2)) vb st (by omega) (by omega) b2
      have na : NamV la (.is (ncells la) la.length ta) := NamV.mk la ta (by rcases p4 with rfl | rfl <;> rfl)
      have nb : NamV lb (.is (ncells lb) lb.length tb) := NamV.mk lb tb (by rcases q4 with rfl | rfl <;> rfl)
      have hp : (la ++ lb).Perm l := (p2.append q2).trans (by rw [es])
      have hlen := hp.length_eq
      simp only [List.length_append] at hlen
      obtain ⟨l', w, st', k1, k2, k3, k4, k5⟩ := merge_spec st.length (la.length + lb.length) la lb [] rfl (by simp only [List.length_nil]; omega) p3 q3 List.Pairwise.nil (by simp) _ _ .nils st na nb (Nat.le_refl _) (.inl ⟨rfl, rfl⟩)
      have hpl : l'.Perm l := k3.trans (by simpa using hp)
      have hl' := hpl.length_eq
      rcases k5 with ⟨_, rfl⟩ | ⟨i, g, hi, rfl⟩
      · simp at hl'; omega
      · refine ⟨l', .no, ret_tip (g := g) ?_ hi k2, hpl, k4, .inl rfl⟩
        rw [stencilref5_Sorted.b_eq]
        simp only [hv.len, Option.bind_some, h2', decide_false, cond_false, hd, a1, b1, p1, q1, Out.on, k1]

theorem twice_loop {l : List ByteArray} {v : AV} (hv : NamV l v) (hl : l.length ≤ 1050000) (st : Sto) : ∀ (suf pre : List ByteArray) (x : ByteArray), l = pre ++ x :: suf → stencilref5_twice.p110100 v (((pre.length + 1 : Nat) : Int)) st = some ⟨.ret (.bool (twins (x :: suf))), none, st⟩ := by
  intro suf
  induction suf with
  | nil =>
    rintro pre x rfl
    rw [stencilref5_twice.p110100_eq]
    have h : ¬ ((((pre.length + 1 : Nat)) : Int) < (((pre ++ [x]).length : Nat) : Int)) := by simp
    simp only [hv.len, Option.bind_some, h, decide_false, cond_false, twins]
  | cons y r ih =>
    rintro pre x rfl
    have h := ih (pre ++ [x]) y (by simp)
    rw [stencilref5_twice.p110100_eq]
    have hlt : ((((pre.length + 1 : Nat)) : Int) < (((pre ++ x :: y :: r).length : Nat) : Int)) := by simp; omega
    have w1 : IntKind.wrap .i64 ((((pre.length + 1 : Nat)) : Int) - 1) = ((pre.length : Nat) : Int) := w64 _ (by omega) (by simp at hl; omega)
    have w2 : IntKind.wrap .i64 ((((pre.length + 1 : Nat)) : Int) + 1) = ((((pre ++ [x]).length + 1 : Nat)) : Int) := w64 _ (by simp) (by simp at hl ⊢; omega)
    have hv2 : NamV ((pre ++ [x]) ++ y :: r) v := by simpa using hv
    simp only [hv.len, Option.bind_some, hlt, decide_true, cond_true, w1, nam_at hv rfl, nam_at hv2 (i := ((pre.length + 1 : Nat) : Int)) (by simp), ld1, asS, w2, h, twins]
    cases decide (x = y) <;> simp

open Classical in
theorem twice_spec {l : List ByteArray} {v : AV} (hv : NamV l v) (hl : l.length ≤ 1050000) (st : Sto) : CallR ap 64 [v] st = some (.ret (.bool (!decide l.Nodup)), st) := by
  obtain ⟨l', tok, h1, h2, h3, h4⟩ := sorted_spec l.length l v st (Nat.le_refl _) hl hv
  have hn : NamV l' (.is (ncells l') l'.length tok) := NamV.mk l' tok (by rcases h4 with rfl | rfl <;> rfl)
  have hlen := h2.length_eq
  rw [stencilref5_twice.call]
  refine ret_keep ?_ rfl rfl (Keeps.refl _ _)
  rw [stencilref5_twice.b_eq, h1]
  simp only [Option.bind_some, Out.on]
  have e : twins l' = !decide l.Nodup := by
    have := twins_spec l' h3
    rw [h2.nodup_iff] at this
    by_cases hnd : l.Nodup
    · simp only [hnd, decide_true, Bool.not_true]
      cases ht : twins l' with
      | false => rfl
      | true => exact absurd hnd (this.1 ht)
    · simp only [hnd, decide_false, Bool.not_false]
      exact this.2 hnd
  rw [← e]
  cases l' with
  | nil =>
    rw [stencilref5_twice.p110100_eq]
    simp [lenL, twins]
  | cons x r => exact twice_loop hn (by omega) st r [] x rfl
end Go.Proofs.YtiiooldjegoikaaDoor
