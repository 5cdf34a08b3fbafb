/- Forests written. -/
import Derived.Test.YtjcpcglhjeoifaaDoorTW
namespace Go.Proofs.YtjcpcglhjeoifaaDoor
open Go.St Go.Lib
set_option linter.unusedVariables false
set_option linter.unusedSimpArgs false

def hbA : List (ByteArray × ByteArray) → List UInt8
  | [] => []
  | x :: r => 32 :: (x.1.data.toList ++ (61 :: 34 :: (esc true x.2.data.toList ++ (34 :: hbA r))))

/-- A forest written. -/
def hb : Fo → List UInt8
  | .nil => []
  | .cons tag text ats kids rest => (if tag = ⟨#[]⟩ then esc false text.data.toList else 60 :: (tag.data.toList ++ (hbA ats ++ (62 :: (hb kids ++ (60 :: 47 :: (tag.data.toList ++ [62]))))))) ++ hb rest

theorem hbA_le (ats : List (ByteArray × ByteArray)) : (hbA ats).length ≤ 8 * asz ats := by
  induction ats with
  | nil => simp [hbA]
  | cons x r ih =>
    have := esc_len true x.2.data.toList
    simp only [hbA, asz, List.length_cons, List.length_append] at *
    rw [← size_list] at *
    omega
theorem hb_le (ts : Fo) : (hb ts).length ≤ 8 * ts.sz := by
  induction ts with
  | nil => simp [hb]
  | cons tag text ats kids rest ihk ihr =>
    have h1 := esc_len false text.data.toList
    have h2 := hbA_le ats
    have h3 := size_list text
    have h4 := size_list tag
    simp only [hb, Fo.sz, List.length_append]
    split
    · omega
    · simp only [List.length_cons, List.length_append, List.length_nil]
      omega

/-! ### The program's -/
theorem bld_app {st l : Sto} {id : Nat} {b : ByteArray} (h : st[id]? = some (.bld b)) : (st ++ l)[id]? = some (.bld b) ∧ ∀ o : Ob, (st ++ l).set id o = st.set id o ++ l := by
  have hid : id < st.length := (List.getElem?_eq_some_iff.1 h).1
  exact ⟨by rw [List.getElem?_append_left hid, h], fun o => by rw [List.set_append_left _ _ hid]⟩

theorem add_bld {st : Sto} {id : Nat} {b t : List UInt8} {s : ByteArray} (h : st[id]? = some (.bld (mk b))) (hs : s = mk t) (hl : b.length + t.length ≤ 70368744177664) : primA .bldStr [.mp id 0 0, .str s] st = some (.ret (.tup [.int .i64 (s.size : Nat), .nili]), st.set id (.bld (mk (b ++ t)))) := by
  subst hs
  have hl' : (mk b).size + (mk t).size ≤ 70368744177664 := by rw [mk_size, mk_size]; exact hl
  simp only [primA, bldAdd, h, hl', if_true, Option.bind_some, mk_app]
theorem add_byte {st : Sto} {id : Nat} {b : List UInt8} (h : st[id]? = some (.bld (mk b))) (hl : b.length + 1 ≤ 70368744177664) : primA .bldByte [.mp id 0 0, .int .u8 62] st = some (.ret .nili, st.set id (.bld (mk (b ++ [62])))) := by
  have e : Go.St.byteOf 62 = mk [62] := by decide
  have hl' : (mk b).size + (mk [62]).size ≤ 70368744177664 := by rw [mk_size, mk_size]; exact hl
  simp only [primA, bldAdd, h, if_true, Option.bind_some, show (0 : Int) ≤ 62 ∧ (62 : Int) < 256 by decide, e]
  simp only [hl', if_true, Option.bind_some, and_self, h, mk_app]

theorem text_attr (n v : ByteArray) : (((((⟨#[32]⟩ : ByteArray) ++ n) ++ (⟨#[61, 34]⟩ : ByteArray)) ++ mk (esc true v.data.toList)) ++ (⟨#[34]⟩ : ByteArray)) = mk (32 :: (n.data.toList ++ (61 :: 34 :: (esc true v.data.toList ++ [34])))) := by
  apply ByteArray.ext
  apply Array.ext'
  simp [mk, ByteArray.data_append]
theorem text_open (n : ByteArray) : ((⟨#[60]⟩ : ByteArray) ++ n) = mk (60 :: n.data.toList) := by
  apply ByteArray.ext
  apply Array.ext'
  simp [mk, ByteArray.data_append]
theorem text_close (n : ByteArray) : (((⟨#[60, 47]⟩ : ByteArray) ++ n) ++ (⟨#[62]⟩ : ByteArray)) = mk (60 :: 47 :: (n.data.toList ++ [62])) := by
  apply ByteArray.ext
  apply Array.ext'
  simp [mk, ByteArray.data_append]

theorem write_attrs {tag text : ByteArray} {a k v : AV} {ats : List (ByteArray × ByteArray)} (ha : AttV ats a) (hs : asz ats ≤ 1050000) (id : Nat) (n i : Int) :
    ∀ (suf pre : List (ByteArray × ByteArray)), ats = pre ++ suf → ∀ (st : Sto) (b : List UInt8), st[id]? = some (.bld (mk b)) → b.length + 8 * asz suf ≤ 70368744177664 →
      ∃ l, forest_write.p100110011110100 (.mp id 0 0) v (.ip [.str tag, .str text, a, k]) n i a ((ats.length : Nat) : Int) ((pre.length : Nat) : Int) st =
        forest_write.p100110011110100 (.mp id 0 0) v (.ip [.str tag, .str text, a, k]) n i a ((ats.length : Nat) : Int) ((ats.length : Nat) : Int) (st.set id (.bld (mk (b ++ hbA suf))) ++ l) := by
  intro suf
  induction suf with
  | nil =>
    intro pre hp st b hst hb
    rw [List.append_nil] at hp
    subst hp
    refine ⟨[], ?_⟩
    rw [hbA, List.append_nil, List.append_nil, set_same hst]
  | cons x r ih =>
    intro pre hp st b hst hb
    subst hp
    have hlen : (pre ++ x :: r).length ≤ 525000 := by have := asz_len (pre ++ x :: r); omega
    have hx := asz_mem (ats := pre ++ x :: r) (x := x) (by simp)
    have hlt : (((pre.length : Nat) : Int) < (((pre ++ x :: r).length : Nat) : Int)) := by simp; omega
    have hw : IntKind.wrap .i64 (((pre.length : Nat) : Int) + 1) = (((pre ++ [x]).length : Nat) : Int) := by
      rw [w64 (pre.length + 1) (by omega) (by simp at hlen ⊢; omega)]
      simp
    have he := esc_len true x.2.data.toList
    have h3 := size_list x.2
    have h4 := size_list x.1
    simp only [asz] at hb
    obtain ⟨st1, hst1⟩ : ∃ s : Sto, s = st ++ [Ob.cells 0 [.str x.1, .str x.2] 0] := ⟨_, rfl⟩
    have hsto : sto 2 (st ++ [Ob.cells 0 [.str ⟨#[]⟩, .str ⟨#[]⟩] 0]) (.mp st.length 0 0) (.agg [.str x.1, .str x.2]) = some st1 := by
      rw [hst1]
      exact m_new (cs := [.str ⟨#[]⟩, .str ⟨#[]⟩]) (cs' := [.str x.1, .str x.2]) rfl rfl rfl
    have hg : st1[st.length]? = some (.cells 0 [.str x.1, .str x.2] 0) := by rw [hst1]; simp
    have r0 : ld false 1 st1 (.mp st.length 0 0) = some (.str x.1) := m_get hg rfl
    have r1 : ld false 1 st1 (.mp st.length 0 1) = some (.str x.2) := m_get hg rfl
    obtain ⟨q1, q2⟩ := bld_app (l := [Ob.cells 0 [.str x.1, .str x.2] 0]) hst
    rw [← hst1] at q1
    have hadd := add_bld (s := (((((⟨#[32]⟩ : ByteArray) ++ x.1) ++ (⟨#[61, 34]⟩ : ByteArray)) ++ mk (esc true x.2.data.toList)) ++ (⟨#[34]⟩ : ByteArray))) q1 (text_attr x.1 x.2) (by simp only [List.length_cons, List.length_append, List.length_nil]; omega)
    have z1 : (⟨#[32]⟩ : ByteArray).size = 1 := rfl
    have z2 : (⟨#[61, 34]⟩ : ByteArray).size = 2 := rfl
    have z3 : (⟨#[34]⟩ : ByteArray).size = 1 := rfl
    have s1 : (⟨#[32]⟩ : ByteArray).size + x.1.size ≤ 9223372036854775807 := by omega
    have s2 : ((⟨#[32]⟩ : ByteArray) ++ x.1).size + (⟨#[61, 34]⟩ : ByteArray).size ≤ 9223372036854775807 := by rw [ByteArray.size_append]; omega
    have s3 : (((⟨#[32]⟩ : ByteArray) ++ x.1) ++ (⟨#[61, 34]⟩ : ByteArray)).size + (mk (esc true x.2.data.toList)).size ≤ 9223372036854775807 := by rw [ByteArray.size_append, ByteArray.size_append, mk_size]; omega
    have s4 : ((((⟨#[32]⟩ : ByteArray) ++ x.1) ++ (⟨#[61, 34]⟩ : ByteArray)) ++ mk (esc true x.2.data.toList)).size + (⟨#[34]⟩ : ByteArray).size ≤ 9223372036854775807 := by rw [ByteArray.size_append, ByteArray.size_append, ByteArray.size_append, mk_size]; omega
    have hset : ∀ o : Ob, st1.set id o = st.set id o ++ [Ob.cells 0 [.str x.1, .str x.2] 0] := by intro o; rw [hst1]; exact q2 o
    have hid : id < st.length := (List.getElem?_eq_some_iff.1 hst).1
    obtain ⟨l, hl⟩ := ih (pre ++ [x]) (by simp) (st.set id (.bld (mk (b ++ (32 :: (x.1.data.toList ++ (61 :: 34 :: (esc true x.2.data.toList ++ [34]))))))) ++ [Ob.cells 0 [.str x.1, .str x.2] 0])
      (b ++ (32 :: (x.1.data.toList ++ (61 :: 34 :: (esc true x.2.data.toList ++ [34]))))) (by
        rw [List.getElem?_append_left (by simpa using hid)]
        exact List.getElem?_set_self hid) (by simp only [List.length_cons, List.length_append, List.length_nil]; omega)
    refine ⟨[Ob.cells 0 [.str x.1, .str x.2] 0] ++ l, ?_⟩
    rw [forest_write.p100110011110100_eq]
    simp only [hlt, decide_true, cond_true, attr_at ha rfl, Option.bind_some, l2, hsto, r0, r1, asS, s1, s2, s3, s4, if_true, attr x.2 (by omega), Out.on, hadd, hw, hset]
    rw [hl]
    congr 1
    rw [List.set_append_left _ _ (by simpa using hid), List.set_set, List.append_assoc]
    congr 3
    simp [hbA]

def WriteOk (ts : Fo) : Prop := ∀ (row : List AV) (n i : Nat) (tok : Tok) (st : Sto) (id : Nat) (b : List UInt8), Row ts (row.drop (i * 4)) → n = i + ts.len → ts.sz ≤ 1050000 → n ≤ 1050000 → b.length + 8 * ts.sz ≤ 70368744177664 → st[id]? = some (.bld (mk b)) →
  ∃ l, forest_write.p100 (.mp id 0 0) (.is row n tok) ((n : Nat) : Int) ((i : Nat) : Int) st = some ⟨.ret (.tup []), none, st.set id (.bld (mk (b ++ hb ts))) ++ l⟩

theorem write_of {ts : Fo} (H : WriteOk ts) {v : AV} (hv : FoV ts v) (hs : ts.sz ≤ 1050000) {st : Sto} {id : Nat} {b : List UInt8} (hb : b.length + 8 * ts.sz ≤ 70368744177664) (hst : st[id]? = some (.bld (mk b))) :
    CallR ap 28 [.mp id 0 0, v] st = some (.ret (.tup []), st.set id (.bld (mk (b ++ Go.Proofs.YtjcpcglhjeoifaaDoor.hb ts)))) := by
  suffices h : ∃ l, forest_write.b (.mp id 0 0) v st = some ⟨.ret (.tup []), none, st.set id (.bld (mk (b ++ Go.Proofs.YtjcpcglhjeoifaaDoor.hb ts))) ++ l⟩ by
    obtain ⟨l, h⟩ := h
    rw [forest_write.call]
    exact ret_set h rfl rfl rfl
  rw [forest_write.b_eq, hv.len]
  simp only [Option.bind_some]
  rcases hv with ⟨h0, rfl⟩ | ⟨row, tok, rfl, hr⟩
  · obtain rfl := len_nil h0
    rw [forest_write.p100_eq]
    refine ⟨[], ?_⟩
    have := set_same hst
    simp [Fo.len, Go.Proofs.YtjcpcglhjeoifaaDoor.hb, this]
  · have hl := len_sz ts
    have := H row ts.len 0 tok st id b (by simpa using hr) (by omega) hs (by omega) hb hst
    simpa using this

theorem write_all (ts : Fo) : WriteOk ts := by
  induction ts with
  | nil =>
    intro row n i tok st id b hr hn hs hb hl hst
    simp only [Fo.len] at hn
    rw [forest_write.p100_eq]
    have hlt : ¬ (((i : Nat) : Int) < ((n : Nat) : Int)) := by omega
    refine ⟨[], ?_⟩
    simp only [hlt, decide_false, cond_false, hb, Go.Proofs.YtjcpcglhjeoifaaDoor.hb, List.append_nil, set_same hst]
  | cons tag text ats kids rest ihk ihr =>
    intro row n i tok st id b hr hn hs hnb hl hst
    simp only [Fo.len] at hn
    simp only [Fo.sz] at hs hl
    obtain ⟨a, k, ha, hk, hr', hlen, hia⟩ := row_at hr
    have hia := hia n tok (by omega)
    have hid := (List.getElem?_eq_some_iff.1 hst).1
    have wi : IntKind.wrap .i64 ((i : Int) + 1) = ((i + 1 : Nat) : Int) := w64 _ (by omega) (by omega)
    have hlt : (((i : Nat) : Int) < ((n : Nat) : Int)) := by omega
    have hset : ∀ (s : Sto) (o : Ob), s[id]? = some o → id < s.length := fun s o h => (List.getElem?_eq_some_iff.1 h).1
    have e1 := esc_len false text.data.toList
    have e3 := size_list text
    have e4 := size_list tag
    have eA := hbA_le ats
    have eK := hb_le kids
    rw [forest_write.p100_eq]
    simp only [hlt, decide_true, cond_true, hia, Option.bind_some, nk, f0, f1, f2, f3, l1, asS]
    by_cases ht : tag = ⟨#[]⟩
    · have hadd := add_bld (s := mk (esc false text.data.toList)) hst rfl (by omega)
      simp only [ht, decide_true, cond_true, Go.Proofs.YtjcpcglhjeoifaaDoor.text text (by omega), Out.on, Option.bind_some, hadd, forest_write.p100111_eq, wi]
      obtain ⟨l, h⟩ := ihr row n (i + 1) tok (st.set id (.bld (mk (b ++ esc false text.data.toList)))) id (b ++ esc false text.data.toList) hr' (by omega) (by omega) hnb (by rw [List.length_append]; omega) (List.getElem?_set_self hid)
      refine ⟨l, ?_⟩
      rw [h, List.set_set]
      simp only [Go.Proofs.YtjcpcglhjeoifaaDoor.hb, if_true, List.append_assoc]
    · have z1 : (⟨#[60]⟩ : ByteArray).size = 1 := rfl
      have z2 : (⟨#[60, 47]⟩ : ByteArray).size = 2 := rfl
      have z3 : (⟨#[62]⟩ : ByteArray).size = 1 := rfl
      have s1 : (⟨#[60]⟩ : ByteArray).size + tag.size ≤ 9223372036854775807 := by omega
      have s2 : (⟨#[60, 47]⟩ : ByteArray).size + tag.size ≤ 9223372036854775807 := by omega
      have s3 : ((⟨#[60, 47]⟩ : ByteArray) ++ tag).size + (⟨#[62]⟩ : ByteArray).size ≤ 9223372036854775807 := by rw [ByteArray.size_append]; omega
      have hadd := add_bld (s := (⟨#[60]⟩ : ByteArray) ++ tag) hst (text_open tag) (by simp only [List.length_cons]; omega)
      simp only [ht, decide_false, cond_false, s1, if_true, hadd, Option.bind_some, Out.on, ha.len]
      obtain ⟨lA, hA⟩ := write_attrs (tag := tag) (text := text) (k := k) (v := .is row n tok) ha (by omega) id ((n : Nat) : Int) ((i : Nat) : Int) ats [] rfl (st.set id (.bld (mk (b ++ (60 :: tag.data.toList))))) (b ++ (60 :: tag.data.toList)) (List.getElem?_set_self hid) (by simp only [List.length_append, List.length_cons]; omega)
      simp only [List.length_nil, Int.natCast_zero, List.set_set] at hA
      rw [hA, forest_write.p100110011110100_eq]
      simp only [Int.lt_irrefl, decide_false, cond_false]
      have g1 : (st.set id (.bld (mk ((b ++ (60 :: tag.data.toList)) ++ hbA ats))) ++ lA)[id]? = some (.bld (mk ((b ++ (60 :: tag.data.toList)) ++ hbA ats))) := by
        rw [List.getElem?_append_left (by simpa using hid)]
        exact List.getElem?_set_self hid
      have hb1 := add_byte g1 (by simp only [List.length_append, List.length_cons]; omega)
      rw [List.set_append_left _ _ (by simpa using hid), List.set_set] at hb1
      simp only [hb1, Option.bind_some, Out.on, nk, f3, l1]
      have g2 : (st.set id (.bld (mk (((b ++ (60 :: tag.data.toList)) ++ hbA ats) ++ [62]))) ++ lA)[id]? = some (.bld (mk (((b ++ (60 :: tag.data.toList)) ++ hbA ats) ++ [62]))) := by
        rw [List.getElem?_append_left (by simpa using hid)]
        exact List.getElem?_set_self hid
      have hk2 := write_of ihk hk (by omega) (by simp only [List.length_append, List.length_cons, List.length_nil]; omega) g2
      rw [List.set_append_left _ _ (by simpa using hid), List.set_set] at hk2
      simp only [hk2, Option.bind_some, Out.on, nk, f0, l1, asS, s2, s3, if_true]
      have g3 : (st.set id (.bld (mk ((((b ++ (60 :: tag.data.toList)) ++ hbA ats) ++ [62]) ++ Go.Proofs.YtjcpcglhjeoifaaDoor.hb kids))) ++ lA)[id]? = some (.bld (mk ((((b ++ (60 :: tag.data.toList)) ++ hbA ats) ++ [62]) ++ Go.Proofs.YtjcpcglhjeoifaaDoor.hb kids))) := by
        rw [List.getElem?_append_left (by simpa using hid)]
        exact List.getElem?_set_self hid
      have hc := add_bld (s := ((⟨#[60, 47]⟩ : ByteArray) ++ tag) ++ (⟨#[62]⟩ : ByteArray)) g3 (text_close tag) (by simp only [List.length_append, List.length_cons, List.length_nil]; omega)
      rw [List.set_append_left _ _ (by simpa using hid), List.set_set] at hc
      simp only [hc, Option.bind_some, Out.on, forest_write.p100111_eq, wi]
      obtain ⟨l, h⟩ := ihr row n (i + 1) tok (st.set id (.bld (mk (((((b ++ (60 :: tag.data.toList)) ++ hbA ats) ++ [62]) ++ Go.Proofs.YtjcpcglhjeoifaaDoor.hb kids) ++ (60 :: 47 :: (tag.data.toList ++ [62]))))) ++ lA) id
        (((((b ++ (60 :: tag.data.toList)) ++ hbA ats) ++ [62]) ++ Go.Proofs.YtjcpcglhjeoifaaDoor.hb kids) ++ (60 :: 47 :: (tag.data.toList ++ [62]))) hr' (by omega) (by omega) hnb (by simp only [List.length_append, List.length_cons, List.length_nil]; omega) (by
          rw [List.getElem?_append_left (by simpa using hid)]
          exact List.getElem?_set_self hid)
      refine ⟨lA ++ l, ?_⟩
      rw [h, List.set_append_left _ _ (by simpa using hid), List.set_set, List.append_assoc]
      simp only [Go.Proofs.YtjcpcglhjeoifaaDoor.hb, ht, if_false, List.append_assoc, List.cons_append, List.nil_append]

/-- What Html answers. -/
noncomputable def htmlOut (ts : Fo) : AV := if (look ts).2.2 = 0 then .tup [.str (mk (hb ts)), .int .i64 0] else .tup [.str ⟨#[]⟩, .int .i64 ((look ts).2.2 : Nat)]

theorem html_spec {ts : Fo} {v : AV} (hv : FoV ts v) (hs : ts.sz ≤ 1050000) (st : Sto) : CallR ap 12 [v] st = some (.ret (htmlOut ts), st) := by
  have hc := check_spec hv hs st
  have hset : ∀ o o' : Ob, (st ++ [o]).set st.length o' = st ++ [o'] := by
    intro o o'
    rw [List.set_append_right _ _ (Nat.le_refl _)]
    simp
  rw [forest_Html.call]
  unfold htmlOut
  by_cases hz : (look ts).2.2 = 0
  · simp only [hz, if_true]
    refine ret_keep (st' := st ++ [.bld (mk (hb ts))]) ?_ rfl rfl (Keeps.app (Nat.le_refl _))
    rw [forest_Html.b_eq, hc]
    have hw := write_of (write_all ts) hv hs (st := st ++ [Ob.bld (mk [])]) (id := st.length) (b := []) (by simp only [List.length_nil]; omega) (by simp)
    rw [hset, List.nil_append] at hw
    have he : (Ob.bld ByteArray.empty) = .bld (mk []) := rfl
    have hg : (st ++ [Ob.bld (mk (hb ts))])[st.length]? = some (.bld (mk (hb ts))) := by simp
    simp only [Option.bind_some, Out.on, asI, if_true, hz, Int.natCast_zero, decide_true, Bool.not_true, cond_false, he, hw, primA, bldGet, hg]
  · simp only [hz, if_false]
    have hz' : ¬ ((((look ts).2.2 : Nat) : Int) = 0) := by omega
    refine ret_keep ?_ rfl rfl (Keeps.refl _ _)
    rw [forest_Html.b_eq, hc]
    simp only [Option.bind_some, Out.on, asI, if_true, hz', decide_false, Bool.not_false, cond_true]
end Go.Proofs.YtjcpcglhjeoifaaDoor
