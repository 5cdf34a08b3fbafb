/- What the operations do in memory: values out of values. -/
import Derived.Test.YtnjpbbiolngfkaaDoorStS3
import Derived.Laws.StructEq
namespace Go.St
open Go.RowKit
set_option linter.unusedVariables false
set_option linter.unusedSimpArgs false

section
variable {P : Program} {A : AProg} {w0 : World} {G : Gh} {st st' : Sto} {w : World} {R : Type}

/-! ### Operators -/
theorem eqGuard_int (op : BinOp) (t : TypeId) (X Y : Operand) (k k' : IntKind) (a b : Int) : (eqGuard op t X Y (.int k a) (.int k' b)).run P w = .ok () w := by cases op <;> rfl
theorem eqGuard_str (op : BinOp) (t : TypeId) (X Y : Operand) (a b : ByteArray) : (eqGuard op t X Y (.string a) (.string b)).run P w = .ok () w := by cases op <;> rfl
theorem toList_beq (a b : ByteArray) : (a.toList == b.toList) = decide (a = b) := by
  rw [ByteArray.toList_eq, ByteArray.toList_eq]
  by_cases h : a = b
  · subst h; simp
  · have : a.data.toList ≠ b.data.toList := fun e => h (by
      obtain ⟨⟨x⟩⟩ := a
      obtain ⟨⟨y⟩⟩ := b
      simp at e
      subst e
      rfl)
    have h2 : ¬ a.data = b.data := fun e => this (by rw [e])
    simp [h, h2]

theorem g_binI {op : BinOp} {k k' : IntKind} {a b : Int} {c : AV → Option R} {r : R} (hk : k' = k ∨ op = .shl ∨ op = .shr) (h : binI op k a b c = some r) (t : TypeId) (X Y : Operand) :
    ∃ v, c v = some r ∧ ∃ v', (do eqGuard op t X Y (.int k a) (.int k' b); binOp op t (.int k a) (.int k' b)).run P w = .ok v' w ∧ VR G v v' := by
  simp only [Sem.run_bind, eqGuard_int, Result.andThen_ok]
  have hne : ∀ {x y : Int}, (x != y) = !decide (x = y) := fun {x y} => by by_cases h : x = y <;> simp [h]
  have hb : ∀ {x y : Sem Value} {j : IntKind}, (if j ≠ j then x else y) = y := fun {x y j} => if_neg (by simp)
  cases op <;> simp only [binI] at h
  case shl =>
    split at h
    · cases h
    · rename_i hb; refine ⟨_, h, _, ?_, .int k _⟩; simp only [binOp, Op.shift, if_neg hb]; rfl
  case shr =>
    split at h
    · cases h
    · rename_i hb; refine ⟨_, h, _, ?_, .int k _⟩; simp only [binOp, Op.shift, if_neg hb]; rfl
  all_goals (obtain rfl : k' = k := by rcases hk with h | h | h <;> first | exact h | cases h)
  case quo =>
    split at h
    · cases h
    · rename_i hz; refine ⟨_, h, _, ?_, .int _ _⟩; simp only [binOp, hb, Op.intDiv, if_neg hz]; rfl
  case rem =>
    split at h
    · cases h
    · rename_i hz; refine ⟨_, h, _, ?_, .int _ _⟩; simp only [binOp, hb, Op.intDiv, if_neg hz]; rfl
  case eql => refine ⟨_, h, _, by simp only [binOp, hb]; rfl, ?_⟩; rw [show (a == b) = decide (a = b) from rfl]; exact .bool _
  case neq => refine ⟨_, h, _, by simp only [binOp, hb]; rfl, ?_⟩; rw [hne]; exact .bool _
  all_goals (refine ⟨_, h, _, by simp only [binOp, hb]; rfl, ?_⟩; first | exact .int _ _ | exact .bool _)

theorem g_binS {op : BinOp} {a b : ByteArray} {c : AV → Option R} {r : R} (h : binS op a b c = some r) (t : TypeId) (X Y : Operand) :
    ∃ v, c v = some r ∧ ∃ v', (do eqGuard op t X Y (.string a) (.string b); binOp op t (.string a) (.string b)).run P w = .ok v' w ∧ VR G v v' := by
  simp only [Sem.run_bind, eqGuard_str, Result.andThen_ok]
  cases op <;> simp only [binS] at h <;> first
    | (cases h; done)
    | (refine ⟨_, h, _, by simp only [binOp, Op.stringOp]; rfl, ?_⟩; rw [toList_beq]; exact .bool _; done)
    | (refine ⟨_, h, _, by simp only [binOp, Op.stringOp]; rfl, ?_⟩; rw [toList_beq, ByteArray.toList_eq, ByteArray.toList_eq]; exact .bool _; done)
    | (refine ⟨_, h, _, by simp only [binOp, Op.stringOp]; rfl, ?_⟩; rw [ByteArray.toList_eq, ByteArray.toList_eq]; exact .bool _; done)
    | skip
  split at h
  · rename_i hs
    refine ⟨_, h, _, ?_, .str _⟩
    simp only [binOp, Op.stringOp]
    rw [if_neg (by simp only [IntKind.max, IntKind.signed, IntKind.bits]; simp; omega)]
    rfl
  · cases h

theorem kb_bool {k : TK} {d : TypeDesc} (h : kindB k d = true) (hk : ekOf k = .bool) : d = .bool := by cases k <;> cases d <;> simp_all [kindB, ekOf]
theorem kb_ptr {k : TK} {d : TypeDesc} (h : kindB k d = true) (hk : ekOf k = .ptr) : ∃ e, d = .pointer e := by cases k <;> cases d <;> simp_all [kindB, ekOf]
theorem kb_slice {k : TK} {d : TypeDesc} (h : kindB k d = true) (hk : ekOf k = .slice) : ∃ e, d = .slice e := by cases k <;> cases d <;> simp_all [kindB, ekOf]
theorem kb_map {k : TK} {d : TypeDesc} (h : kindB k d = true) (hk : ekOf k = .map) : ∃ e f, d = .map e f := by cases k <;> cases d <;> simp_all [kindB, ekOf]
theorem kb_func {k : TK} {d : TypeDesc} (h : kindB k d = true) (hk : ekOf k = .func) : ∃ a b c, d = .func a b c := by cases k <;> cases d <;> simp_all [kindB, ekOf]
theorem kb_iface {k : TK} {d : TypeDesc} (h : kindB k d = true) (hk : ekOf k = .iface) : ∃ a, d = .interface a := by cases k <;> cases d <;> simp_all [kindB, ekOf]
theorem kb_struct {k : TK} {d : TypeDesc} (h : kindB k d = true) (hk : ekOf k = .struct) : ∃ a, d = .struct a := by cases k <;> cases d <;> simp_all [kindB, ekOf]

/-- Structs of numbers, texts and truths, in their row. -/
def fkB (P : Program) (k : FK) (t : TypeId) : Bool :=
  match P.underlying t with
  | some .bool => k == .b
  | some (.int _) => k == .i
  | some .string => k == .s
  | _ => false
def flatB (P : Program) : Nat → List FK → List Field → Bool
  | _, [], [] => true
  | o, k :: ks, f :: fs => f.offset == o && f.name != "_" && fkB P k f.type && flatB P (o + 1) ks fs
  | _, _, _ => false
def eqOkB (P : Program) (t : TypeId) (ks : List FK) : Bool :=
  match P.underlying t with
  | some (.struct fs) => flatB P 0 ks fs.toList && !P.stoodInHeld t && !P.eqGuardType P.depth t
  | _ => false

theorem fkB_agg {k : FK} {t : TypeId} (h : fkB P k t = true) : (isAgg t).run P w = .ok false w := by
  unfold fkB at h
  split at h <;> first | (rename_i hd; simp [isAgg, run_underlying hd]; done) | cases h
theorem fkB_eq {k : FK} {t : TypeId} (h : fkB P k t = true) {a b : AV} {v u : Value} {z : Bool} (hc : eqF k a b = some z) (hva : VR G a v) (hub : VR G b u) (d : Nat) : (Op.equalIn (d + 1) t v u).run P w = .ok z w := by
  unfold fkB at h
  split at h
  · rename_i hd
    simp only [beq_iff_eq] at h
    subst h
    unfold eqF at hc
    split at hc <;> first | contradiction | skip
    cases hc; cases hva; cases hub
    rw [run_equalIn_bool' w d t _ _ hd]
  · rename_i hd
    simp only [beq_iff_eq] at h
    subst h
    unfold eqF at hc
    split at hc <;> first | contradiction | skip
    split at hc
    · rename_i hk
      cases hc; cases hva; cases hub
      subst hk
      rw [run_equalIn_int w d t _ _ _ _ hd]
      rfl
    · cases hc
  · rename_i hd
    simp only [beq_iff_eq] at h
    subst h
    unfold eqF at hc
    split at hc <;> first | contradiction | skip
    cases hc; cases hva; cases hub
    rw [run_equalIn_string w d t _ _ hd, toList_beq]
  · cases h

theorem eqCells_sound : ∀ {ks : List FK} {as bs : List AV} {q : Bool} {o : Nat} {fs : List Field} {xs ys : Array Value} (d : Nat), eqCells ks as bs = some q → flatB P o ks fs = true →
    VRs G as (xs.toList.drop o) → VRs G bs (ys.toList.drop o) → (Op.eqFields (d + 1) xs ys fs).run P w = .ok q w := by
  intro ks
  induction ks with
  | nil =>
    intro as bs q o fs xs ys d h hf hx hy
    cases fs with
    | nil =>
      cases as <;> cases bs <;> simp [eqCells] at h
      subst h
      rfl
    | cons f fs => simp [flatB] at hf
  | cons k ks ih =>
    intro as bs q o fs xs ys d h hf hx hy
    cases as with
    | nil => cases bs <;> simp [eqCells] at h
    | cons a as =>
      cases bs with
      | nil => simp [eqCells] at h
      | cons b bs =>
        cases fs with
        | nil => simp [flatB] at hf
        | cons f fs =>
          simp only [flatB, Bool.and_eq_true, beq_iff_eq] at hf
          obtain ⟨⟨⟨hoff, hname⟩, hund⟩, hrest⟩ := hf
          obtain ⟨v, vs, hv, hva, hvs⟩ := hx.head
          obtain ⟨u, us, hu, hub, hus⟩ := hy.head
          have hxo : xs[o]? = some v := by have := congrArg (fun l => l[0]?) hv; simpa [List.getElem?_drop] using this
          have hyo : ys[o]? = some u := by have := congrArg (fun l => l[0]?) hu; simpa [List.getElem?_drop] using this
          have hxd : xs.toList.drop (o + 1) = vs := by rw [← List.drop_drop, hv]; rfl
          have hyd : ys.toList.drop (o + 1) = us := by rw [← List.drop_drop, hu]; rfl
          simp only [eqCells] at h
          cases hc : eqF k a b with
          | none => simp [hc] at h
          | some z =>
            simp only [hc, Option.bind_some] at h
            have hagg := fkB_agg (w := w) hund
            have hcell := fkB_eq (w := w) hund hc hva hub d
            have hpx : (part f.type xs f.offset).run P w = .ok v w := by simp [part, hagg, hoff, hxo]
            have hpy : (part f.type ys f.offset).run P w = .ok u w := by simp [part, hagg, hoff, hyo]
            simp only [Op.eqFields]
            rw [if_pos (by simpa using hname)]
            simp only [Sem.run_bind, hpx, hpy, hcell, Result.andThen_ok]
            cases z with
            | false => simp at h; subst h; rfl
            | true =>
              simp only [if_true] at h
              simp only [Bool.not_true, Bool.false_eq_true, if_false]
              exact ih d h hrest (by rw [hxd]; exact hvs) (by rw [hyd]; exact hus)

set_option maxHeartbeats 1600000 in
theorem eqIn_sound {td : TD} {t : TypeId} {d : TypeDesc} (hd : P.underlying t = some d) (hk : kindB td.k d = true) {ks : List FK} (hks : ks = [] ∨ eqOkB P t ks = true) {lit : Bool} {x y : AV} {xv yv : Value} {q : Bool}
    (h : eqV (ekOf td.k) ks lit x y = some q) (hx : VR G x xv) (hy : VR G y yv) (D : Nat) : (Op.equalIn (D + 1 + 1) t xv yv).run P w = .ok q w := by
  obtain ⟨E, hE⟩ : ∃ E, E = D + 1 := ⟨_, rfl⟩
  rw [← hE]
  unfold eqV at h
  split at h
  · rename_i hek
    obtain rfl := kb_bool hk hek
    split at h
    · cases h; cases hx; cases hy
      rw [run_equalIn_bool' w _ t _ _ hd]
    · cases h
  · rename_i hek
    obtain ⟨e, rfl⟩ := kb_ptr hk hek
    split at h <;> first
      | (cases h; cases hx; cases hy; simp [Op.equalIn, run_underlying hd]; done)
      | (cases h; done)
  · rename_i hek
    obtain ⟨e, rfl⟩ := kb_slice hk hek
    split at h <;> first
      | (cases h; cases hx <;> cases hy <;> simp [Op.equalIn, run_underlying hd]; done)
      | (cases h; done)
  · rename_i hek
    obtain ⟨e, f, rfl⟩ := kb_map hk hek
    split at h <;> first
      | (cases h; cases hx; cases hy; simp [Op.equalIn, run_underlying hd]; done)
      | (cases h; done)
  · rename_i hek
    obtain ⟨e, f, g, rfl⟩ := kb_func hk hek
    split at h <;> first
      | (cases h; cases hx; cases hy; simp [Op.equalIn, run_underlying hd]; done)
      | (cases h; done)
  · rename_i hek
    obtain ⟨e, rfl⟩ := kb_iface hk hek
    split at h
    · split at h
      · cases h; cases hx; cases hy; simp [Op.equalIn, run_underlying hd]
      · cases h
    · cases h; cases hx; cases hy; simp [Op.equalIn, run_underlying hd]
    · cases h; cases hx; cases hy; simp [Op.equalIn, run_underlying hd]
    · cases h
  · rename_i hek
    obtain ⟨fs, rfl⟩ := kb_struct hk hek
    split at h
    · split at h
      · cases h
      · rename_i hne
        rcases hks with hks | hks
        · exact absurd hks hne
        · unfold eqOkB at hks
          simp only [hd, Bool.and_eq_true, Bool.not_eq_true'] at hks
          cases hx with
          | agg as xs hx hx' =>
            cases hy with
            | agg bs ys hy hy' =>
              have hfo : P.fieldsOf t = fs := by simp [Program.fieldsOf, hd]
              rw [hE, run_equalIn_struct w (D + 1) t xs ys (by rw [hfo]; exact hd) hks.1.2, hfo]
              exact eqCells_sound D h hks.1.1 ⟨by simpa using hx, fun j a v ha hv => hx' j a v ha (by simpa using hv)⟩ ⟨by simpa using hy, fun j a v ha hv => hy' j a v ha (by simpa using hv)⟩
    · cases h
  · cases h

theorem g_eqV {td : TD} {t : TypeId} {d : TypeDesc} (hd : P.underlying t = some d) (hk : kindB td.k d = true) {ks : List FK} (hks : ks = [] ∨ eqOkB P t ks = true) {x y : AV} {xv yv : Value} {q : Bool} {X Y : Operand}
    (h : eqV (ekOf td.k) ks (isNilConst X || isNilConst Y) x y = some q) (hx : VR G x xv) (hy : VR G y yv) {op : BinOp} (hop : op = .eql ∨ op = .neq) :
    (do eqGuard op t X Y xv yv; binOp op t xv yv).run P w = .ok (.bool (if op = .eql then q else !q)) w := by
  have hE : (Op.equal t xv yv).run P w = .ok q w := eqIn_sound hd hk hks h hx hy 9998
  have hG : (eqGuard op t X Y xv yv).run P w = .ok () w := by
    by_cases h1 : xv = .nilIface ∧ yv = .nilIface
    · obtain ⟨rfl, rfl⟩ := h1
      have hl : (isNilConst X || isNilConst Y) = true := by
        cases hx <;> cases hy <;> unfold eqV at h <;> split at h <;> simp_all
      clear h hE
      rcases hop with rfl | rfl <;> cases X <;> cases Y <;> first | rfl | (simp [isNilConst] at hl; done)
    · by_cases h2 : ∃ u v, xv = .agg u ∧ yv = .agg v
      · obtain ⟨u, v, rfl, rfl⟩ := h2
        have hm : P.eqGuardType P.depth t = false := by
          have hek : ekOf td.k = .struct ∧ ks ≠ [] := by
            cases hx <;> cases hy <;> (unfold eqV at h; split at h <;> first | (simp at h; done) | skip) <;> (rename_i hek; refine ⟨hek, fun e => ?_⟩; simp [e] at h)
          obtain ⟨hek, hne⟩ := hek
          obtain ⟨fs, rfl⟩ := kb_struct hk hek
          rcases hks with hks | hks
          · exact absurd hks hne
          · unfold eqOkB at hks
            simp only [hd, Bool.and_eq_true, Bool.not_eq_true'] at hks
            exact hks.2
        exact run_eqGuard_agg w op t X Y u v hm
      · cases xv <;> cases yv <;> first
          | (rcases hop with rfl | rfl <;> rfl)
          | (exfalso; exact h1 ⟨rfl, rfl⟩)
          | (exfalso; exact h2 ⟨_, _, rfl, rfl⟩)
  simp only [Sem.run_bind, hG, Result.andThen_ok]
  have hni : ∀ k a k' b, ¬ (xv = .int k a ∧ yv = .int k' b) := by
    rintro k a k' b ⟨rfl, rfl⟩
    cases hx <;> cases hy <;> unfold eqV at h <;> split at h <;> simp at h
  have hns : ∀ a b, ¬ (xv = .string a ∧ yv = .string b) := by
    rintro a b ⟨rfl, rfl⟩
    cases hx <;> cases hy <;> unfold eqV at h <;> split at h <;> simp at h
  have hnf : ∀ k a k' b, ¬ (xv = .float k a ∧ yv = .float k' b) := by
    rintro k a k' b ⟨rfl, rfl⟩
    cases hx <;> cases hy <;> unfold eqV at h <;> split at h <;> simp at h
  have hnc : ∀ k a c k' b e, ¬ (xv = .complex k a c ∧ yv = .complex k' b e) := by
    rintro k a c k' b e ⟨rfl, rfl⟩
    cases hx <;> cases hy <;> unfold eqV at h <;> split at h <;> simp at h
  rcases hop with rfl | rfl
  · have e : binOp .eql t xv yv = (do pure (.bool (← Op.equal t xv yv)) : Sem Value) := by
      cases xv <;> cases yv <;> first
        | rfl
        | (exfalso; exact hni _ _ _ _ ⟨rfl, rfl⟩)
        | (exfalso; exact hns _ _ ⟨rfl, rfl⟩)
        | (exfalso; exact hnf _ _ _ _ ⟨rfl, rfl⟩)
        | (exfalso; exact hnc _ _ _ _ _ _ ⟨rfl, rfl⟩)
    rw [e]
    simp [hE]
  · have e : binOp .neq t xv yv = (do pure (.bool (!(← Op.equal t xv yv))) : Sem Value) := by
      cases xv <;> cases yv <;> first
        | rfl
        | (exfalso; exact hni _ _ _ _ ⟨rfl, rfl⟩)
        | (exfalso; exact hns _ _ ⟨rfl, rfl⟩)
        | (exfalso; exact hnf _ _ _ _ ⟨rfl, rfl⟩)
        | (exfalso; exact hnc _ _ _ _ _ _ ⟨rfl, rfl⟩)
    rw [e]
    simp [hE]

end

end Go.St
