/-
  More on a variable that lies as a row of cells: one cell is written.
-/
import Derived.Test.YtjobmbjadpldfaaDb
namespace Go.Proofs.Ytjobmbjadpldfaa
open Go.RowKit
set_option maxRecDepth 100000

theorem DBox.put {b : Nat} {cs : List Value} {w : World} (h : DBox b cs w) (j : Nat) (hj : j < cs.length) (u : Value) : DBox b (cs.set j u) (w.setCell ⟨b, j, none⟩ u) := by
  refine ⟨fun i x hx => ?_, fun i => by rw [setCell_frozen]; exact h.free i, by simpa [World.setCell] using h.lt⟩
  have hi : i < cs.length := by
    have := (List.getElem?_eq_some_iff.1 hx).1
    simpa using this
  rw [setCell_cell w b i j u cs[i] (h.cell i _ (List.getElem?_eq_getElem hi)) ⟨_, h.cell j _ (List.getElem?_eq_getElem hj)⟩]
  by_cases e : i = j
  · subst e
    rw [List.getElem?_set_self hi] at hx
    rw [if_pos rfl]
    exact hx
  · rw [List.getElem?_set_ne (Ne.symm e), List.getElem?_eq_getElem hi] at hx
    rw [if_neg e]
    exact hx
end Go.Proofs.Ytjobmbjadpldfaa
