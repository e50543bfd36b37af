/-
  How long a slice is that reads as a list.
-/
import Derived.Test.YtjobmbjadpldfaaDp
namespace Go.Proofs.Ytjobmbjadpldfaa
open Go.RowKit
theorem RdL.at1 {α : Type} {d : Dt α} {w : World} {B : Nat} {s : Sl} {l : List α} (h : RdL d w B s.v l) : s.n = l.length := by
  obtain ⟨A, c, hv, -⟩ := h.form
  simp only [Sl.v, Value.slice.injEq] at hv
  exact hv.2.1
end Go.Proofs.Ytjobmbjadpldfaa
