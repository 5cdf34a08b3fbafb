/- What the functions of layer 4 give. -/
import Derived.Test.YtigdijdpggjpiaaDoorL
import Derived.Test.YtigdijdpggjpiaaDoorE
import Derived.Test.YtigdijdpggjpiaaDoorStS19
namespace Go.Proofs.YtigdijdpggjpiaaDoor
open Go.St
set_option linter.unusedVariables false
set_option linter.unusedSimpArgs false

/-- What stands for a byte. -/
def W (c : Int) (q : Bool) : ByteArray :=
  if c = 38 then ⟨#[38, 97, 109, 112, 59]⟩ else if c = 60 then ⟨#[38, 108, 116, 59]⟩ else if c = 62 then ⟨#[38, 103, 116, 59]⟩ else if c = 123 then ⟨#[38, 108, 98, 114, 97, 99, 101, 59]⟩
  else if c = 34 ∧ q = true then ⟨#[38, 113, 117, 111, 116, 59]⟩ else ⟨#[]⟩

theorem gcs (s : ByteArray) (st : Sto) : gc st (.ret (.str s), st) = (.ret (.str s), st) := gc_keep rfl rfl (Keeps.refl _ _)

theorem written (c : Int) (q : Bool) (st : Sto) : CallR ap 38 [.int .u8 c, .bool q] st = some (.ret (.str (W c q)), st) := by
  rw [html_written.call, html_written.b_eq]
  unfold W
  by_cases h1 : c = 38
  · simp [h1, gcs]
  by_cases h2 : c = 60
  · simp [h2, gcs]
  by_cases h3 : c = 62
  · simp [h3, gcs]
  by_cases h4 : c = 123
  · simp [h4, gcs]
  by_cases h5 : c = 34
  · cases q <;> simp [h5, gcs, html_written.p11_eq]
  · simp [h1, h2, h3, h4, h5, gcs, html_written.p11_eq]

theorem entity (c : Int) (q : Bool) (st : Sto) : CallR ap 61 [.int .u8 c, .bool q] st = some (.ret (.str (W c q)), st) := by
  rw [stencilref4_entity.call, stencilref4_entity.b_eq]
  unfold W
  by_cases h1 : c = 38
  · simp [h1, gcs]
  by_cases h2 : c = 60
  · simp [h2, gcs]
  by_cases h3 : c = 62
  · simp [h3, gcs]
  by_cases h4 : c = 123
  · simp [h4, gcs]
  by_cases h5 : c = 34
  · cases q <;> simp [h5, gcs, stencilref4_entity.p100111111111_eq]
  · simp [h1, h2, h3, h4, h5, gcs, stencilref4_entity.p100111111111_eq]

/-- What stands for a byte, the byte itself where nothing does. -/
def E1 (q : Bool) (c : UInt8) : List UInt8 := if W c.toNat q = ⟨#[]⟩ then [c] else (W c.toNat q).data.toList
def esc (q : Bool) (l : List UInt8) : List UInt8 := l.flatMap (E1 q)

theorem W_size (c : Int) (q : Bool) : (W c q).size ≤ 8 := by
  unfold W
  repeat' split
  all_goals decide
theorem E1_len (q : Bool) (c : UInt8) : (E1 q c).length ≤ 8 := by
  unfold E1
  split
  · simp
  · have := W_size c.toNat q
    rw [Array.length_toList]
    exact this
theorem esc_len (q : Bool) : ∀ l : List UInt8, (esc q l).length ≤ 8 * l.length := by
  intro l
  induction l with
  | nil => simp [esc]
  | cons c r ih =>
    have := E1_len q c
    simp only [esc, List.flatMap_cons, List.length_append, List.length_cons] at ih ⊢
    omega
theorem esc_app (q : Bool) (a b : List UInt8) : esc q (a ++ b) = esc q a ++ esc q b := by simp [esc]
theorem esc_one (q : Bool) (c : UInt8) : esc q [c] = E1 q c := by simp [esc]

def mk (l : List UInt8) : ByteArray := ⟨l.toArray⟩
theorem mk_size (l : List UInt8) : (mk l).size = l.length := by simp [mk, ByteArray.size]
theorem mk_app (a b : List UInt8) : mk a ++ mk b = mk (a ++ b) := by
  apply ByteArray.ext
  simp [mk]
theorem mk_data (s : ByteArray) : mk s.data.toList = s := rfl
theorem mk_inj {a b : List UInt8} (h : mk a = mk b) : a = b := by
  have := congrArg (fun s => s.data.toList) h
  simpa [mk] using this
theorem size_list (s : ByteArray) : s.size = s.data.toList.length := by rw [Array.length_toList]; rfl

theorem take_succ' {l : List UInt8} {j : Nat} {c : UInt8} (h : l[j]? = some c) : l.take (j + 1) = l.take j ++ [c] := by
  rw [List.take_add_one, h]
  rfl

/-- The loop of html.escaped. -/
theorem escaped_loop (s : ByteArray) (q : Bool) (i : Nat) (hs : s.size ≤ 8388608) : ∀ (k j : Nat), j + k = s.size → ∀ st : Sto, st[i]? = some (.bld (mk (esc q (s.data.toList.take j)))) →
    html_escaped.p110100 s q i ((s.size : Nat) : Int) (j : Int) st = some ⟨.ret (.str (mk (esc q s.data.toList))), none, st.set i (.bld (mk (esc q s.data.toList)))⟩ := by
  have hset : ∀ (st : Sto) (o : Ob), st[i]? = some o → st.set i o = st := fun st o h => by
    apply List.ext_getElem?
    intro j
    by_cases hj : i = j
    · subst hj; rw [List.getElem?_set_self (List.getElem?_eq_some_iff.1 h).1, h]
    · rw [List.getElem?_set_ne hj]
  intro k
  induction k with
  | zero =>
    intro j hj st hst
    have hl : s.data.toList.take j = s.data.toList := List.take_of_length_le (by rw [← size_list]; omega)
    rw [hl] at hst
    rw [html_escaped.p110100_eq]
    have : ¬ ((j : Int) < ((s.size : Nat) : Int)) := by omega
    simp [this, primA, bldGet, hst, Out.on, hset st _ hst]
  | succ k ih =>
    intro j hj st hst
    have hjs : j < s.size := by omega
    obtain ⟨c, hc, hb, _⟩ := byt_at hjs
    rw [html_escaped.p110100_eq]
    have hlt : ((j : Int) < ((s.size : Nat) : Int)) := by omega
    have hacc : (mk (esc q (s.data.toList.take j))).size ≤ 8 * s.size := by
      rw [mk_size]
      have := esc_len q (s.data.toList.take j)
      rw [List.length_take, ← size_list] at this
      omega
    have hw : IntKind.wrap .i64 ((j : Int) + 1) = ((j + 1 : Nat) : Int) := by rw [wrap64 (by omega) (by omega)]; simp
    have hnext : ∀ t : ByteArray, t = mk (E1 q c) → mk (esc q (s.data.toList.take j)) ++ t = mk (esc q (s.data.toList.take (j + 1))) := by
      rintro t rfl
      rw [mk_app, take_succ' hc, esc_app, esc_one]
    have hgo : ∀ t : ByteArray, t = mk (E1 q c) → html_escaped.p110100111 s q i ((s.size : Nat) : Int) (j : Int) (st.set i (.bld (mk (esc q (s.data.toList.take j)) ++ t))) = some ⟨.ret (.str (mk (esc q s.data.toList))), none, st.set i (.bld (mk (esc q s.data.toList)))⟩ := by
      intro t ht
      rw [html_escaped.p110100111_eq, hw, hnext t ht]
      rw [ih (j + 1) (by omega) _ (by rw [List.getElem?_set_self (List.getElem?_eq_some_iff.1 hst).1])]
      rw [List.set_set]
    simp only [hlt, decide_true, cond_true, idx_nat hjs, Option.bind_some, written, Out.on, asS]
    rw [hb]
    by_cases hW : W c.toNat q = ⟨#[]⟩
    · have ht : Go.St.byteOf ((c.toNat : Nat) : Int) = mk (E1 q c) := by
        unfold E1
        rw [if_pos hW]
        simp [Go.St.byteOf, mk]
      have hsz : (mk (esc q (s.data.toList.take j))).size + (Go.St.byteOf ((c.toNat : Nat) : Int)).size ≤ 70368744177664 := by
        have : (Go.St.byteOf ((c.toNat : Nat) : Int)).size = 1 := rfl
        omega
      have hc256 : ((c.toNat : Nat) : Int) < 256 := by have := c.toNat_lt; omega
      simp only [hW, decide_true, Bool.not_true, cond_false, primA, bldAdd, hst, hsz, if_true, Option.bind_some, Int.natCast_nonneg, hc256, and_self]
      exact hgo _ ht
    · have ht : W c.toNat q = mk (E1 q c) := by
        unfold E1
        rw [if_neg hW]
        exact (mk_data _).symm
      have hsz : (mk (esc q (s.data.toList.take j))).size + (W c.toNat q).size ≤ 70368744177664 := by
        have := W_size c.toNat q
        omega
      simp only [hW, decide_false, Bool.not_false, cond_true, primA, bldAdd, hst, hsz, if_true, Option.bind_some]
      exact hgo _ ht

theorem escaped (s : ByteArray) (q : Bool) (hs : s.size ≤ 8388608) (st : Sto) : CallR ap 24 [.str s, .bool q] st = some (.ret (.str (mk (esc q s.data.toList))), st) := by
  rw [html_escaped.call, html_escaped.b_eq]
  have h := escaped_loop s q st.length hs s.size 0 (by omega) (st ++ [.bld ByteArray.empty]) (by simp [esc, mk]; rfl)
  simp only [Int.natCast_zero] at h
  rw [h]
  simp only [Option.bind_some]
  rw [gc_keep rfl rfl]
  exact (Keeps.app (Nat.le_refl _)).trans (Keeps.set (Nat.le_refl _))

/-- The loop of the document's. -/
theorem text (s : ByteArray) (hs : s.size ≤ 8388608) (st : Sto) : CallR ap 14 [.str s] st = some (.ret (.str (mk (esc false s.data.toList))), st) := by
  rw [html_Text.call, html_Text.b_eq, escaped s false hs st]
  simp only [Option.bind_some, Out.on, gcs]
theorem attr (s : ByteArray) (hs : s.size ≤ 8388608) (st : Sto) : CallR ap 15 [.str s] st = some (.ret (.str (mk (esc true s.data.toList))), st) := by
  rw [html_Attr.call, html_Attr.b_eq, escaped s true hs st]
  simp only [Option.bind_some, Out.on, gcs]
def five : List UInt8 := [38, 60, 62, 123, 34]
def hit (ds l : List UInt8) : Option UInt8 := ds.find? fun d => (W d.toNat true).data.toList.isPrefixOf l
def pl : Nat → List UInt8 → Nat → List UInt8 → Option (List UInt8) × Nat
  | 0, _, _, acc => (some acc, 0)
  | _ + 1, [], _, acc => (some acc, 0)
  | n + 1, c :: r, i, acc => if c ≠ 38 then pl n r (i + 1) (acc ++ [c]) else match hit five (c :: r) with
    | some d => pl n ((c :: r).drop (W d.toNat true).size) (i + (W d.toNat true).size) (acc ++ [d])
    | none => (none, i)
def plOut (r : Option (List UInt8) × Nat) : AV := match r.1 with
  | some acc => .tup [.str (mk acc), .int .i64 0, .int .i64 0]
  | none => .tup [.str ⟨#[]⟩, .int .i64 r.2, .int .i64 400]

theorem bnd_int {d m i : Nat} {k : IntKind} (h : i ≤ m) : bnd d m (some (.int k (i : Int))) = some i := by
  have : (0 : Int) ≤ (i : Int) ∧ (i : Int) ≤ (m : Int) := by omega
  simp only [bnd, this, and_self, if_true]
  simp

theorem ext_list (s : ByteArray) (i j : Nat) : (ByteArray.extract s i j).data.toList = (s.data.toList.drop i).take (j - i) := by
  rw [ByteArray.data_extract, Array.toList_extract]
theorem ba_ext {a b : ByteArray} : a = b ↔ a.data.toList = b.data.toList := ⟨fun h => by rw [h], fun h => ByteArray.ext (Array.ext' h)⟩
theorem pre_iff (p l : List UInt8) : p.isPrefixOf l = decide (l.take p.length = p) := by
  rw [Bool.eq_iff_iff, List.isPrefixOf_iff_prefix, List.prefix_iff_eq_take, decide_eq_true_iff, eq_comm]

theorem hasPrefix (a b : ByteArray) (st : Sto) : CallR ap 45 [.str a, .str b] st = some (.ret (.bool (b.data.toList.isPrefixOf a.data.toList)), st) := by
  have gcb : ∀ x : Bool, gc st (.ret (.bool x), st) = (.ret (.bool x), st) := fun x => gc_keep rfl rfl (Keeps.refl _ _)
  have h : CallR ap 58 [.str a, .str b] st = some (.ret (.bool (b.data.toList.isPrefixOf a.data.toList)), st) := by
    rw [internal_stringslite_HasPrefix.call, internal_stringslite_HasPrefix.b_eq, pre_iff]
    by_cases hs : b.size ≤ a.size
    · have h1 : (((ByteArray.size b : Nat) : Int) ≤ ((ByteArray.size a : Nat) : Int)) := by omega
      have h2 : bnd a.size a.size (some (.int .i64 ((b.size : Nat) : Int))) = some b.size := by
        exact bnd_int hs
      simp only [h1, decide_true, cond_true, h2, Option.bind_some, gcb]
      congr 4
      rw [decide_eq_decide, ba_ext, ext_list]
      simp [← size_list]
    · have h1 : ¬ (((ByteArray.size b : Nat) : Int) ≤ ((ByteArray.size a : Nat) : Int)) := by omega
      simp only [h1, decide_false, cond_false, Option.bind_some, gcb]
      congr 4
      symm
      rw [decide_eq_false_iff_not]
      intro h
      have := congrArg List.length h
      rw [List.length_take, ← size_list, ← size_list] at this
      omega
  rw [strings_HasPrefix.call, strings_HasPrefix.b_eq, h]
  simp only [Option.bind_some, Out.on, gcb]

theorem set_same {st : Sto} {i : Nat} {o : Ob} (h : st[i]? = some o) : st.set i o = st := by
  apply List.ext_getElem?
  intro j
  by_cases hj : i = j
  · subst hj; rw [List.getElem?_set_self (List.getElem?_eq_some_iff.1 h).1, h]
  · rw [List.getElem?_set_ne hj]

theorem ld_five {st : Sto} {id k : Nat} (h : st[id]? = some (.cells 0 (bytesL five) 6)) {d : UInt8} (hd : five[k]? = some d) : ld false 1 st (.mp id 0 (0 + k * 1)) = some (.int .u8 ((d.toNat : Nat) : Int)) := by
  have hk : k < 5 := (List.getElem?_eq_some_iff.1 hd).1
  have hcond : (0 : Nat) = 0 ∧ 0 + k * 1 + 1 ≤ (bytesL five).length := ⟨rfl, by show 0 + k * 1 + 1 ≤ 5; omega⟩
  have hrow : ((bytesL five).drop (0 + k * 1)).take 1 = [.int .u8 ((d.toNat : Nat) : Int)] := by
    have : (0 + k * 1) = k := by omega
    rw [this]
    have h1 : (bytesL five)[k]? = some (.int .u8 ((d.toNat : Nat) : Int)) := by
      simp only [bytesL, List.getElem?_map, hd, Option.map_some]
    rw [List.take_one, List.head?_drop, h1]
    rfl
  simp only [ld, ldCells, h, hcond, and_self, if_true, hrow, Option.bind_some, pack, Bool.false_eq_true, if_false]

theorem byteOf_mk (d : UInt8) : Go.St.byteOf ((d.toNat : Nat) : Int) = mk [d] := by simp [Go.St.byteOf, mk]

theorem W_pos {d : UInt8} (h : d ∈ five) : 1 ≤ (W d.toNat true).size := by
  simp only [five, List.mem_cons, List.not_mem_nil, or_false] at h
  rcases h with rfl | rfl | rfl | rfl | rfl <;> decide

theorem plain_inner (s : ByteArray) (b id i : Nat) (acc : List UInt8) (hs : s.size ≤ 8388608) (hi : i < s.size) (hacc : acc.length ≤ i) : ∀ (m k : Nat), k + m = 5 → ∀ st : Sto, st[id]? = some (.cells 0 (bytesL five) 6) → st[b]? = some (.bld (mk acc)) →
    html_Plain.p101101001010100 s b (i : Int) (.ms id 0 0 5 1) 5 (k : Int) st = match hit (five.drop k) (s.data.toList.drop i) with
      | some d => html_Plain.p10110100 s b ((i + (W d.toNat true).size : Nat) : Int) (st.set b (.bld (mk (acc ++ [d]))))
      | none => some ⟨.ret (.tup [.str ⟨#[]⟩, .int .i64 (i : Int), .int .i64 400]), none, st⟩ := by
  intro m
  induction m with
  | zero =>
    intro k hk st hc hb
    have : k = 5 := by omega
    subst this
    rw [html_Plain.p101101001010100_eq]
    rfl
  | succ m ih =>
    intro k hk st hc hb
    have hk5 : k < 5 := by omega
    obtain ⟨d, hd⟩ : ∃ d, five[k]? = some d := ⟨_, List.getElem?_eq_getElem (show k < five.length from hk5)⟩
    have hdrop : five.drop k = d :: five.drop (k + 1) := by
      have := (List.getElem?_eq_some_iff.1 hd)
      obtain ⟨h1, h2⟩ := this
      rw [List.drop_eq_getElem_cons h1, h2]
    rw [html_Plain.p101101001010100_eq]
    have hlt : ((k : Int) < 5) := by omega
    have hia : ia 1 (.ms id 0 0 5 1) (.int .i64 (k : Int)) = some (.mp id 0 (0 + k * 1)) := by
      simp only [ia, idx_nat hk5, Option.bind_some, if_true]
    have hw : IntKind.wrap .i64 ((k : Int) + 1) = ((k + 1 : Nat) : Int) := by rw [wrap64 (by omega) (by omega)]; simp
    simp only [hlt, decide_true, cond_true, hia, ld_five hc hd, Option.bind_some, written, Out.on, bnd_int (show i ≤ s.size by omega), hasPrefix, asB, asS]
    have hx : (ByteArray.extract s i s.size).data.toList = s.data.toList.drop i := by
      rw [ext_list, List.take_of_length_le]
      rw [List.length_drop, ← size_list]
      omega
    rw [hx]
    have hhit : hit (d :: five.drop (k + 1)) (s.data.toList.drop i) = if (W d.toNat true).data.toList.isPrefixOf (s.data.toList.drop i) then some d else hit (five.drop (k + 1)) (s.data.toList.drop i) := by
      simp only [hit, List.find?_cons]
      split <;> simp_all
    rw [hdrop, hhit]
    cases hp : (W d.toNat true).data.toList.isPrefixOf (s.data.toList.drop i) with
    | true =>
      have hsz : (mk acc).size + (mk [d]).size ≤ 70368744177664 := by
        rw [mk_size, mk_size]
        simp
        omega
      have hc256 : ((d.toNat : Nat) : Int) < 256 := by have := d.toNat_lt; omega
      have hwi : IntKind.wrap .i64 ((i : Int) + (((W d.toNat true).size : Nat) : Int)) = ((i + (W d.toNat true).size : Nat) : Int) := by
        have := W_size d.toNat true
        rw [wrap64 (by omega) (by omega)]
        simp
      simp only [cond_true, primA, bldAdd, hb, hsz, if_true, Option.bind_some, Int.natCast_nonneg, hc256, and_self, hwi, byteOf_mk, mk_app]
    | false =>
      simp only [cond_false, hw, Bool.false_eq_true, if_false]
      exact ih (k + 1) (by omega) st hc hb

theorem lit_five (st : Sto) : litS true 5 1 (fillA (fun i => some (i * 1, 1)) [.int .u8 0, .int .u8 0, .int .u8 0, .int .u8 0, .int .u8 0] [(0, (.int .u8 38)), (1, (.int .u8 60)), (2, (.int .u8 62)), (3, (.int .u8 123)), (4, (.int .u8 34))]) st =
    some (.ms st.length 0 0 5 1, st ++ [.cells 0 (bytesL five) 0]) := by rfl
theorem freeze_five (st : Sto) : freezeA (.ms st.length 0 0 5 1) (st ++ [.cells 0 (bytesL five) 0]) = some ((st ++ [Ob.cells 0 (bytesL five) 0]).set st.length (Ob.cells 0 (bytesL five) 6)) := by
  have h : (st ++ [Ob.cells 0 (bytesL five) 0])[st.length]? = some (Ob.cells 0 (bytesL five) 0) := by simp
  simp only [freezeA, h, Nat.reduceEqDiff, if_false, if_true]
  rfl

theorem hit_mem {ds l : List UInt8} {d : UInt8} (h : hit ds l = some d) : d ∈ ds ∧ (W d.toNat true).data.toList.isPrefixOf l = true := by
  unfold hit at h
  exact ⟨List.mem_of_find?_eq_some h, by have := List.find?_some h; exact this⟩

theorem plain_loop (s : ByteArray) (b : Nat) (hs : s.size ≤ 8388608) : ∀ (n i : Nat) (st : Sto) (acc : List UInt8), s.size ≤ i + n → i ≤ s.size → acc.length ≤ i → st[b]? = some (.bld (mk acc)) →
    ∃ st', html_Plain.p10110100 s b (i : Int) st = some ⟨.ret (plOut (pl n (s.data.toList.drop i) i acc)), none, st'⟩ ∧ Keeps b st st' := by
  intro n
  induction n with
  | zero =>
    intro i st acc hn hi hacc hb
    have : ¬ ((i : Int) < ((s.size : Nat) : Int)) := by omega
    rw [html_Plain.p10110100_eq]
    simp only [this, decide_false, cond_false, primA, bldGet, hb, Option.bind_some, Out.on]
    exact ⟨st, rfl, Keeps.refl _ _⟩
  | succ n ih =>
    intro i st acc hn hi hacc hb
    have hbl : b < st.length := (List.getElem?_eq_some_iff.1 hb).1
    rw [html_Plain.p10110100_eq]
    by_cases hlt : i < s.size
    · obtain ⟨c, hc, hby, _⟩ := byt_at hlt
      have hlt' : ((i : Int) < ((s.size : Nat) : Int)) := by omega
      have hcons : s.data.toList.drop i = c :: s.data.toList.drop (i + 1) := by
        obtain ⟨h1, h2⟩ := List.getElem?_eq_some_iff.1 hc
        rw [List.drop_eq_getElem_cons h1, h2]
      rw [hcons]
      simp only [hlt', decide_true, cond_true, idx_nat hlt, Option.bind_some, hby]
      by_cases h38 : c = 38
      · subst h38
        have h1 : ((((38 : UInt8).toNat : Nat) : Int) = 38) := rfl
        simp only [h1, decide_true, Bool.not_true, cond_false, lit_five, Option.bind_some, freeze_five, lenL]
        have hst2 : ((st ++ [Ob.cells 0 (bytesL five) 0]).set st.length (.cells 0 (bytesL five) 6))[st.length]? = some (.cells 0 (bytesL five) 6) := List.getElem?_set_self (by simp)
        have hstb : ((st ++ [Ob.cells 0 (bytesL five) 0]).set st.length (.cells 0 (bytesL five) 6))[b]? = some (.bld (mk acc)) := by
          rw [List.getElem?_set_ne (by omega), List.getElem?_append_left hbl]
          exact hb
        have hkeep : Keeps b st ((st ++ [Ob.cells 0 (bytesL five) 0]).set st.length (.cells 0 (bytesL five) 6)) := (Keeps.app (by omega)).trans (Keeps.set (by omega))
        generalize ((st ++ [Ob.cells 0 (bytesL five) 0]).set st.length (.cells 0 (bytesL five) 6)) = st2 at hst2 hstb hkeep
        have hin := plain_inner s b st.length i acc hs hlt hacc 5 0 rfl st2 hst2 hstb
        simp only [Int.natCast_zero, List.drop_zero] at hin
        have h5 : (((5 : Nat) : Int)) = 5 := rfl
        rw [h5, hin, hcons]
        simp only [pl, ne_eq, not_true_eq_false, if_false]
        cases hh : hit five (38 :: s.data.toList.drop (i + 1)) with
        | none => exact ⟨st2, rfl, hkeep⟩
        | some d =>
          obtain ⟨hm, hp⟩ := hit_mem hh
          have hpos := W_pos hm
          have hle : i + (W d.toNat true).size ≤ s.size := by
            have := (List.isPrefixOf_iff_prefix.1 hp).length_le
            rw [← size_list, ← hcons, List.length_drop, ← size_list] at this
            omega
          have hdrop : (38 :: s.data.toList.drop (i + 1)).drop (W d.toNat true).size = s.data.toList.drop (i + (W d.toNat true).size) := by
            rw [← hcons, List.drop_drop]
          simp only [hdrop]
          obtain ⟨st', h2, h3⟩ := ih (i + (W d.toNat true).size) (st2.set b (.bld (mk (acc ++ [d])))) (acc ++ [d]) (by omega) hle (by simp; omega) (List.getElem?_set_self (List.getElem?_eq_some_iff.1 hstb).1)
          exact ⟨st', h2, hkeep.trans ((Keeps.set (Nat.le_refl b)).trans h3)⟩
      · have h1 : ¬ (((c.toNat : Nat) : Int) = 38) := fun e => h38 (by
          have : c.toNat = 38 := by omega
          exact UInt8.toNat_inj.1 this)
        have hsz : (mk acc).size + (mk [c]).size ≤ 70368744177664 := by
          rw [mk_size, mk_size]
          simp
          omega
        have hc256 : ((c.toNat : Nat) : Int) < 256 := by have := c.toNat_lt; omega
        have hw : IntKind.wrap .i64 ((i : Int) + 1) = ((i + 1 : Nat) : Int) := by rw [wrap64 (by omega) (by omega)]; simp
        simp only [h1, decide_false, Bool.not_false, cond_true, primA, bldAdd, hb, byteOf_mk, hsz, if_true, Option.bind_some, Int.natCast_nonneg, hc256, and_self, Out.on, hw, mk_app]
        obtain ⟨st', h2, h3⟩ := ih (i + 1) (st.set b (.bld (mk (acc ++ [c])))) (acc ++ [c]) (by omega) (by omega) (by simp; omega) (List.getElem?_set_self hbl)
        refine ⟨st', ?_, (Keeps.set (Nat.le_refl b)).trans h3⟩
        rw [h2]
        simp only [pl, ne_eq, h38, not_false_eq_true, if_true]
    · have : ¬ ((i : Int) < ((s.size : Nat) : Int)) := by omega
      have hnil : s.data.toList.drop i = [] := List.drop_eq_nil_of_le (by rw [← size_list]; omega)
      simp only [this, decide_false, cond_false, primA, bldGet, hb, Option.bind_some, Out.on, hnil, pl]
      exact ⟨st, rfl, Keeps.refl _ _⟩

theorem plOut_gc (r : Option (List UInt8) × Nat) {st st' : Sto} (h : Keeps st.length st st') : gc st (.ret (plOut r), st') = (.ret (plOut r), st) := by
  obtain ⟨r1, r2⟩ := r
  cases r1 with
  | none => exact gc_keep rfl rfl h
  | some acc => exact gc_keep rfl rfl h

theorem plain (s : ByteArray) (hs : s.size ≤ 8388608) (st : Sto) : CallR ap 57 [.str s] st = some (.ret (plOut (pl s.size s.data.toList 0 [])), st) := by
  rw [html_Plain.call, html_Plain.b_eq]
  obtain ⟨st', h, hk⟩ := plain_loop s st.length hs s.size 0 (st ++ [.bld ByteArray.empty]) [] (by omega) (by omega) (by simp) (by simp [mk]; rfl)
  simp only [Int.natCast_zero, List.drop_zero] at h
  rw [h]
  simp only [Option.bind_some]
  rw [plOut_gc _ ((Keeps.app (Nat.le_refl _)).trans hk)]

theorem num (n : Int) (st : Sto) : CallR ap 9 [.int .i64 n] st = some (.ret (.int .i64 n), st) := by
  rw [stencillaw0_Num.call, stencillaw0_Num.b_eq]
  simp only [Option.bind_some]
  rw [gc_keep rfl rfl (Keeps.refl _ _)]

end Go.Proofs.YtigdijdpggjpiaaDoor
