/- What the machine's values stand for. -/
import Derived.Test.YtnjpbbiolngfkaaDoorStLim
import Derived.Below
import Derived.Calls
import Derived.Orders
namespace Go.St
set_option linter.unusedVariables false
set_option linter.unusedSimpArgs false

/-- What the machine's numbers stand for: ρ: an object, in its version: its block, where in it; H: what no one writes any more; Z: a block's size. -/
structure Gh where
  ρ : Nat → Nat → Option (Nat × Nat)
  H : Nat → Option (List Value)
  Z : Nat → Option Nat

structure Gh.le (G G' : Gh) : Prop where
  ρ : ∀ i g x, G.ρ i g = some x → G'.ρ i g = some x
  H : ∀ b l, G.H b = some l → ∃ m, G'.H b = some (l ++ m)
  Z : ∀ b n, G.Z b = some n → G'.Z b = some n

theorem Gh.le.refl (G : Gh) : G.le G := ⟨fun _ _ _ h => h, fun _ l h => ⟨[], by simpa using h⟩, fun _ _ h => h⟩
theorem Gh.le.trans {A B C : Gh} (h : A.le B) (k : B.le C) : A.le C := by
  refine ⟨fun i g x hx => k.ρ _ _ _ (h.ρ _ _ _ hx), fun b l hl => ?_, fun b n hn => k.Z _ _ (h.Z _ _ hn)⟩
  obtain ⟨m, hm⟩ := h.H b l hl
  obtain ⟨m', hm'⟩ := k.H b _ hm
  exact ⟨m ++ m', by rw [hm', List.append_assoc]⟩

def TokR (G : Gh) (tok : Tok) (row len b o cap : Nat) : Prop :=
  match tok with
  | .no => True
  | .full => cap = len
  | .cut n => len ≤ n ∧ n ≤ cap
  | .tip i g es => (∃ h x, G.ρ i h = some x) ∧ (cap = len ∨ (G.ρ i g = some (b, o + row) ∧ row = len * es ∧ ∃ n, G.Z b = some n ∧ o + cap * es ≤ n))

inductive VR (G : Gh) : AV → Value → Prop
  | any (v : Value) : VR G .any v
  | one (v : Value) (h : v.oneCell' = true) : VR G .one v
  | bool (b : Bool) : VR G (.bool b) (.bool b)
  | int (k : IntKind) (n : Int) : VR G (.int k n) (.int k n)
  | str (s : ByteArray) : VR G (.str s) (.string s)
  | nilp : VR G .nilp (.pointer none)
  | ip (cs : List AV) (b o : Nat) (l : List Value) (hH : G.H b = some l) (hl : o + cs.length ≤ l.length)
      (h : ∀ (j : Nat) (a : AV) (v : Value), cs[j]? = some a → l[o + j]? = some v → VR G a v) : VR G (.ip cs) (.pointer (some ⟨b, o, none⟩))
  | mp (id g off b o : Nat) (h : G.ρ id g = some (b, o)) : VR G (.mp id g off) (.pointer (some ⟨b, o + off, none⟩))
  | nils : VR G .nils (.slice none 0 0)
  | is (row : List AV) (len : Nat) (tok : Tok) (b o cap : Nat) (l : List Value) (hH : G.H b = some l) (hl : o + row.length ≤ l.length) (hc : len ≤ cap) (ht : TokR G tok row.length len b o cap)
      (h : ∀ (j : Nat) (a : AV) (v : Value), row[j]? = some a → l[o + j]? = some v → VR G a v) (h1 : ∀ (j : Nat) (v : Value), j < row.length → l[o + j]? = some v → v.oneCell' = true) : VR G (.is row len tok) (.slice (some ⟨b, o, none⟩) len cap)
  | is0 (a : Addr) (cap : Nat) : VR G (.is [] 0 .no) (.slice (some a) 0 cap)
  | ms (id g off len es b o cap : Nat) (a : Addr) (h : G.ρ id g = some (b, o)) (hc : len ≤ cap)
      (ha : cap = 0 ∨ (a = ⟨b, o + off, none⟩ ∧ ∃ n, G.Z b = some n ∧ o + off + cap * es ≤ n)) : VR G (.ms id g off len es) (.slice (some a) len cap)
  | nilm : VR G .nilm (.map none)
  | mr (id b : Nat) (h : G.ρ id 0 = some (b, 0)) : VR G (.mr id) (.map (some b))
  | fn (f : Fn) (as cs : List AV) (xs ys : Array Value) (hf : ∀ l, f ≠ .yield l) (hx : as.length = xs.size) (hy : cs.length = ys.size)
      (h : ∀ (j : Nat) (a : AV) (v : Value), as[j]? = some a → xs[j]? = some v → VR G a v) (k : ∀ (j : Nat) (a : AV) (v : Value), cs[j]? = some a → ys[j]? = some v → VR G a v) : VR G (.fn f as cs) (.func f xs ys)
  | nilfn : VR G .nilfn .nilFunc
  | ifc (t : TypeId) (a : AV) (v : Value) (h : VR G a v) : VR G (.ifc t a) (.iface t v)
  | nili : VR G .nili .nilIface
  | agg (as : List AV) (xs : Array Value) (hx : as.length = xs.size) (h : ∀ (j : Nat) (a : AV) (v : Value), as[j]? = some a → xs[j]? = some v → VR G a v) : VR G (.agg as) (.agg xs)
  | tup (as : List AV) (xs : Array Value) (hx : as.length = xs.size) (h : ∀ (j : Nat) (a : AV) (v : Value), as[j]? = some a → xs[j]? = some v → VR G a v) : VR G (.tup as) (.tuple xs)
  | it (id b : Nat) (h : G.ρ id 0 = some (b, 0)) : VR G (.it id) (.pointer (some ⟨b, 0, none⟩))
  | yl (id b : Nat) (h : G.ρ id 0 = some (b, 0)) : VR G (.yl id) (.func (.yield b) #[] #[])

/-- Cells, one by one. -/
structure VRs (G : Gh) (as : List AV) (vs : List Value) : Prop where
  len : as.length = vs.length
  at_ : ∀ (j : Nat) (a : AV) (v : Value), as[j]? = some a → vs[j]? = some v → VR G a v

theorem TokR.mono {G G' : Gh} (h : G.le G') {tok : Tok} {row len b o cap : Nat} (k : TokR G tok row len b o cap) : TokR G' tok row len b o cap := by
  cases tok with
  | no => trivial
  | full => exact k
  | cut n => exact k
  | tip i g es =>
    obtain ⟨⟨m, x, hx⟩, k⟩ := k
    refine ⟨⟨m, x, h.ρ _ _ _ hx⟩, ?_⟩
    rcases k with k | ⟨k1, k2, n, k3, k4⟩
    · exact .inl k
    · exact .inr ⟨h.ρ _ _ _ k1, k2, n, h.Z _ _ k3, k4⟩

theorem getElem?_app {α : Type} {l m : List α} {j : Nat} {v : α} (hj : j < l.length) (h : (l ++ m)[j]? = some v) : l[j]? = some v := by
  rwa [List.getElem?_append_left hj] at h

theorem VR.mono {G G' : Gh} (h : G.le G') {a : AV} {v : Value} (k : VR G a v) : VR G' a v := by
  induction k with
  | any v => exact .any v
  | one v h => exact .one v h
  | bool b => exact .bool b
  | int k n => exact .int k n
  | str s => exact .str s
  | nilp => exact .nilp
  | ip cs b o l hH hl hh ih =>
    obtain ⟨m, hm⟩ := h.H b l hH
    refine .ip cs b o _ hm (by simp; omega) fun j a v ha hv => ?_
    have hj : j < cs.length := (List.getElem?_eq_some_iff.1 ha).1
    exact ih j a v ha (getElem?_app (by omega) hv)
  | mp id g off b o hh => exact .mp id g off b o (h.ρ _ _ _ hh)
  | nils => exact .nils
  | is row len tok b o cap l hH hl hc ht hh h1 ih =>
    obtain ⟨m, hm⟩ := h.H b l hH
    refine .is row len tok b o cap _ hm (by simp; omega) hc (ht.mono h) (fun j a v ha hv => ?_) fun j v hj hv => h1 j v hj (getElem?_app (by omega) hv)
    have hj : j < row.length := (List.getElem?_eq_some_iff.1 ha).1
    exact ih j a v ha (getElem?_app (by omega) hv)
  | is0 a cap => exact .is0 a cap
  | ms id g off len es b o cap a hh hc ha =>
    refine .ms id g off len es b o cap a (h.ρ _ _ _ hh) hc ?_
    rcases ha with ha | ⟨ha, n, hn, hl⟩
    · exact .inl ha
    · exact .inr ⟨ha, n, h.Z _ _ hn, hl⟩
  | nilm => exact .nilm
  | mr id b hh => exact .mr id b (h.ρ _ _ _ hh)
  | fn f as cs xs ys hf hx hy hh hk ih ik => exact .fn f as cs xs ys hf hx hy ih ik
  | nilfn => exact .nilfn
  | ifc t a v hh ih => exact .ifc t a v ih
  | nili => exact .nili
  | agg as xs hx hh ih => exact .agg as xs hx ih
  | tup as xs hx hh ih => exact .tup as xs hx ih
  | it id b hh => exact .it id b (h.ρ _ _ _ hh)
  | yl id b hh => exact .yl id b (h.ρ _ _ _ hh)

theorem VRs.mono {G G' : Gh} (h : G.le G') {as : List AV} {vs : List Value} (k : VRs G as vs) : VRs G' as vs := ⟨k.len, fun j a v ha hv => (k.at_ j a v ha hv).mono h⟩
theorem VRs.nil (G : Gh) : VRs G [] [] := ⟨rfl, fun j a v ha _ => by simp at ha⟩
theorem VRs.cons {G : Gh} {a : AV} {v : Value} {as : List AV} {vs : List Value} (h : VR G a v) (k : VRs G as vs) : VRs G (a :: as) (v :: vs) := by
  refine ⟨by simp [k.len], fun j a' v' ha hv => ?_⟩
  cases j with
  | zero => simp at ha hv; subst ha; subst hv; exact h
  | succ j => exact k.at_ j a' v' (by simpa using ha) (by simpa using hv)
theorem VRs.append {G : Gh} {as bs : List AV} {vs ws : List Value} (h : VRs G as vs) (k : VRs G bs ws) : VRs G (as ++ bs) (vs ++ ws) := by
  refine ⟨by simp [h.len, k.len], fun j a v ha hv => ?_⟩
  by_cases hj : j < as.length
  · rw [List.getElem?_append_left hj] at ha
    rw [List.getElem?_append_left (by rw [← h.len]; exact hj)] at hv
    exact h.at_ j a v ha hv
  · rw [List.getElem?_append_right (by omega)] at ha
    rw [List.getElem?_append_right (by rw [← h.len]; omega), ← h.len] at hv
    exact k.at_ _ a v ha hv
theorem VRs.take {G : Gh} {as : List AV} {vs : List Value} (h : VRs G as vs) (n : Nat) : VRs G (as.take n) (vs.take n) := by
  refine ⟨by simp [h.len], fun j a v ha hv => ?_⟩
  rw [List.getElem?_take] at ha hv
  by_cases hj : j < n
  · rw [if_pos hj] at ha hv; exact h.at_ j a v ha hv
  · rw [if_neg hj] at ha; cases ha
theorem VRs.drop {G : Gh} {as : List AV} {vs : List Value} (h : VRs G as vs) (n : Nat) : VRs G (as.drop n) (vs.drop n) := by
  refine ⟨by simp [h.len], fun j a v ha hv => ?_⟩
  rw [List.getElem?_drop] at ha hv
  exact h.at_ _ a v ha hv
theorem VRs.splice {G : Gh} {as bs : List AV} {vs ws : List Value} (h : VRs G as vs) (off : Nat) (k : VRs G bs ws) : VRs G (Go.St.splice as off bs) (Go.St.splice vs off ws) := by
  unfold Go.St.splice
  rw [k.len]
  exact (h.take off).append (k.append (h.drop _))
theorem VRs.head {G : Gh} {a : AV} {as : List AV} {vs : List Value} (h : VRs G (a :: as) vs) : ∃ v ws, vs = v :: ws ∧ VR G a v ∧ VRs G as ws := by
  cases vs with
  | nil => have := h.len; simp at this
  | cons v ws =>
    refine ⟨v, ws, rfl, h.at_ 0 a v rfl rfl, ⟨by have := h.len; simpa using this, fun j a' v' ha hv => h.at_ (j + 1) a' v' (by simpa using ha) (by simpa using hv)⟩⟩
theorem VRs.tail {G : Gh} {a : AV} {as : List AV} {v : Value} {vs : List Value} (h : VRs G (a :: as) (v :: vs)) : VRs G as vs := ⟨by have := h.len; simpa using this, fun j a' v' ha hv => h.at_ (j + 1) a' v' (by simpa using ha) (by simpa using hv)⟩
theorem VRs.get {G : Gh} {as : List AV} {vs : List Value} (h : VRs G as vs) {j : Nat} {a : AV} (ha : as[j]? = some a) : ∃ v, vs[j]? = some v ∧ VR G a v := by
  have hj : j < as.length := (List.getElem?_eq_some_iff.1 ha).1
  have hv : j < vs.length := by rw [← h.len]; exact hj
  exact ⟨vs[j], List.getElem?_eq_getElem hv, h.at_ j a _ ha (List.getElem?_eq_getElem hv)⟩
theorem VRs.of_row {G : Gh} {cs : List AV} {l : List Value} {o : Nat} (hl : o + cs.length ≤ l.length) (h : ∀ (j : Nat) (a : AV) (v : Value), cs[j]? = some a → l[o + j]? = some v → VR G a v) :
    VRs G cs ((l.drop o).take cs.length) := by
  refine ⟨by simp; omega, fun j a v ha hv => ?_⟩
  have hj : j < cs.length := (List.getElem?_eq_some_iff.1 ha).1
  rw [List.getElem?_take, if_pos hj, List.getElem?_drop] at hv
  exact h j a v ha hv

theorem VR.cell {G : Gh} {x : AV} {y : Value} (hxy : VR G x y) (hx : x.isCell = true) : y.oneCell' = true := by
  cases hxy <;> first | rfl | assumption | (simp [AV.isCell] at hx)
theorem cells_one {v : Value} (h : v.oneCell' = true) : v.cells = #[v] := by cases v <;> first | rfl | (simp [Value.oneCell'] at h)
theorem avcells_one {a : AV} (h : a.isCell = true) : a.cells = [a] := by cases a <;> first | rfl | (simp [AV.isCell] at h)
theorem VRs.one {G : Gh} {a : AV} {v : Value} (h : VR G a v) : VRs G [a] [v] := VRs.cons h (VRs.nil G)
theorem VRs.cellish {G : Gh} {as : List AV} {vs : List Value} (h : VRs G as vs) (ha : as.all AV.isCell = true) : ∀ x ∈ vs, x.oneCell' = true := by
  intro x hx
  obtain ⟨j, hj, rfl⟩ := List.getElem_of_mem hx
  have hj' : j < as.length := by rw [h.len]; exact hj
  simp only [List.all_eq_true] at ha
  exact (h.at_ j as[j] _ (List.getElem?_eq_getElem hj') (List.getElem?_eq_getElem hj)).cell (ha _ (List.getElem_mem hj'))

/-- A value's cells. -/
theorem VR.cells {G : Gh} {a : AV} {v : Value} (h : VR G a v) (ha : a.cells.all AV.isCell = true) : VRs G a.cells v.cells.toList ∧ ∀ x ∈ v.cells.toList, x.oneCell' = true := by
  by_cases hc : a.isCell = true
  · have h1 := h.cell hc
    rw [avcells_one hc, cells_one h1]
    exact ⟨VRs.one h, fun x hx => by simp at hx; subst hx; exact h1⟩
  · cases h with
    | agg as xs hx hh =>
      have hv : VRs G as xs.toList := ⟨by simpa using hx, fun j a v ha hv => hh j a v ha (by simpa using hv)⟩
      exact ⟨hv, hv.cellish ha⟩
    | _ => first | (exfalso; simp [AV.cells, AV.isCell] at ha; done) | (exfalso; simp [AV.isCell] at hc; done)

end Go.St
