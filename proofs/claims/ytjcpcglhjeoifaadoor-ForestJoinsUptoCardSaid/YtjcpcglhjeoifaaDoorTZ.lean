/- The laws of two forests, out of what a row reads. -/
import Derived.Test.YtjcpcglhjeoifaaDoorTS
import Derived.Test.YtjcpcglhjeoifaaDoorTJ
namespace Go.Proofs.YtjcpcglhjeoifaaDoor
open Go.St Go.Lib
set_option linter.unusedVariables false
set_option linter.unusedSimpArgs false

theorem sames_law {n m : Nat} {l l' : List AV} (h : Shp ap n 22 l) (h' : Shp ap m 22 l') (hb : bulks l + bulks l' ≤ 1048576) : CallR ap 4 [l.headD .any, l'.headD .any] [] = some (.ret (.bool true), []) := by
  obtain ⟨v, ts, rfl, hv, hs⟩ := fo_shape n l h
  obtain ⟨v', ts', rfl, hv', hs'⟩ := fo_shape m l' h'
  simp only [bulks] at hb
  exact sames hv hv' (by omega) (by omega)
theorem joins_law {n m : Nat} {l l' : List AV} (h : Shp ap n 22 l) (h' : Shp ap m 22 l') (hb : bulks l + bulks l' ≤ 1048576) : CallR ap 5 [l.headD .any, l'.headD .any] [] = some (.ret (.bool true), []) := by
  obtain ⟨v, ts, rfl, hv, hs⟩ := fo_shape n l h
  obtain ⟨v', ts', rfl, hv', hs'⟩ := fo_shape m l' h'
  simp only [bulks] at hb
  exact joins hv hv' (by omega)
end Go.Proofs.YtjcpcglhjeoifaaDoor
