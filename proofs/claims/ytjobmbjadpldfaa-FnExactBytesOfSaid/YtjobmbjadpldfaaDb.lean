/-
  A variable of a struct type, that lies in memory as a row of cells; what keeps it.
-/
import Derived.Test.YtjobmbjadpldfaaDp
namespace Go.Proofs.Ytjobmbjadpldfaa
open Go.RowKit
set_option maxRecDepth 100000

/-- block b is a variable that holds the cells cs -/
structure DBox (b : Nat) (cs : List Value) (w : World) : Prop where
  cell : ∀ (j : Nat) (u : Value), cs[j]? = some u → w.cell? ⟨b, j, none⟩ = some u
  free : ∀ j, w.frozen? ⟨b, j, none⟩ = false
  lt : b < w.heap.size
theorem DBox.new (T : TypeId) (cs : List Value) (w : World) {b : Nat} (hb : b = w.heap.size) : DBox b cs (w.alloc (.cells cs.toArray T)) := by
  subst hb
  refine ⟨fun j u hu => ?_, fun j => by simp [go_sem], by simp⟩
  have := news_new w cs.toArray T rfl j u (by simpa using hu)
  have e : ((⟨w.heap.size, 0, none⟩ : Addr).add j) = ⟨w.heap.size, j, none⟩ := by
    unfold Addr.add
    split <;> simp_all
  rw [e] at this
  exact this
theorem DBox.keep {b : Nat} {cs : List Value} {w w' : World} (h : DBox b cs w) (hs : w.heap.size ≤ w'.heap.size) (hk : ∀ j, w'.cell? ⟨b, j, none⟩ = w.cell? ⟨b, j, none⟩) (hf : ∀ j, w'.frozen? ⟨b, j, none⟩ = w.frozen? ⟨b, j, none⟩) : DBox b cs w' :=
  ⟨fun j u hu => (hk j).trans (h.cell j u hu), fun j => (hf j).trans (h.free j), Nat.lt_of_lt_of_le h.lt hs⟩
theorem DBox.below {b : Nat} {cs : List Value} {w w' : World} (h : DBox b cs w) (hb : Below w.heap.size w w') : DBox b cs w' :=
  h.keep hb.size (fun j => hb.cell (p := ⟨b, j, none⟩) h.lt) (fun j => hb.frozen (p := ⟨b, j, none⟩) h.lt)
theorem DBox.chg {F : List Nat} {b : Nat} {cs : List Value} {w w' : World} (h : DBox b cs w) (hc : Chg F w w') (hn : b ∉ F) : DBox b cs w' :=
  h.keep hc.size (fun j => hc.cell (p := ⟨b, j, none⟩) h.lt hn) (fun j => hc.frozen (p := ⟨b, j, none⟩) h.lt hn)
end Go.Proofs.Ytjobmbjadpldfaa
