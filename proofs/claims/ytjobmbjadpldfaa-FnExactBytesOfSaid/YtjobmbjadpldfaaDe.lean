/-
  A variable in memory under writes.
-/
import Derived.Test.YtjobmbjadpldfaaDb
import Derived.Test.YtjobmbjadpldfaaCd
namespace Go.Proofs.Ytjobmbjadpldfaa
open Go.RowKit
set_option maxRecDepth 100000

theorem DBox.set {b : Nat} {cs : List Value} {w : World} (h : DBox b cs w) (j : Nat) (hj : j < cs.length) (u : Value) : DBox b (cs.set j u) (w.setCell ⟨b, j, none⟩ u) := by
  refine ⟨fun i x hx => ?_, fun i => by rw [setCell_frozen]; exact h.free i, by simpa [World.setCell] using h.lt⟩
  have hi : i < cs.length := by
    have := (List.getElem?_eq_some_iff.1 hx).1
    simpa using this
  rw [setCell_cell w b i j u cs[i] (h.cell i _ (List.getElem?_eq_getElem hi)) ⟨_, h.cell j _ (List.getElem?_eq_getElem hj)⟩]
  by_cases e : i = j
  · subst e
    rw [List.getElem?_set_self hi] at hx
    rw [if_pos rfl]
    exact hx
  · rw [List.getElem?_set_ne (Ne.symm e), List.getElem?_eq_getElem hi] at hx
    rw [if_neg e]
    exact hx
theorem DBox.off {b : Nat} {cs : List Value} {w w' : World} {row : Option Nat} (h : DBox b cs w) (hg : w.grownBy w' row) (hne : some b ≠ row) : DBox b cs w' :=
  h.keep hg.size (fun j => hg.cell_far ⟨b, j, none⟩ h.lt hne) (fun j => hg.frozen_far ⟨b, j, none⟩ h.lt hne)
theorem DBox.setOther {b : Nat} {cs : List Value} {w : World} (h : DBox b cs w) {a : Addr} (hne : b ≠ a.block) (u : Value) : DBox b cs (w.setCell a u) :=
  h.off (grown_setCell w a u) (fun e => hne (Option.some.inj e))
theorem Bld.setOther {α : Type} {d : Dt α} {E : TypeId} {w : World} {base : Nat} {v : Value} {rs : List (α × d.S)} (h : Bld d E w base v rs) {a : Addr} (ha : a.block < base) (u : Value) : Bld d E (w.setCell a u) base v rs := by
  obtain ⟨G, h1, h2, h3, h4⟩ := h
  refine ⟨G, h1.setOther (fun e => by have := h1.within _ e; omega) u, h2.keep (by simp [World.setCell]) (fun b hb => Below.heap_setCell w a u b (fun e => by have := (h4 b hb).1; omega)), h3, h4⟩
end Go.Proofs.Ytjobmbjadpldfaa
