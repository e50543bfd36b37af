/-
  A plan's variable that is written over by a whole plan (a law's 'w0, w1 := F(..)' whose variable was made first).
-/
import Derived.Test.YtoccmpijfggmkaaJo
namespace Go.Proofs.Ytoccmpijfggmkaa
open Go.RowKit
set_option maxRecDepth 100000
set_option maxHeartbeats 1000000

/-- a plan's variable is written over -/
theorem setBox_cell {w : World} {g b o : Nat} (v0 v1 v2 v3 v4 : Value) (hne : ¬ b = g) : (((((w.setCell ⟨g, 0, none⟩ v0).setCell ⟨g, 1, none⟩ v1).setCell ⟨g, 2, none⟩ v2).setCell ⟨g, 3, none⟩ v3).setCell ⟨g, 4, none⟩ v4).cell? ⟨b, o, none⟩ = w.cell? ⟨b, o, none⟩ := by
  have h : ∀ (w : World) (j : Nat) (v : Value), (w.setCell ⟨g, j, none⟩ v).cell? ⟨b, o, none⟩ = w.cell? ⟨b, o, none⟩ := fun w j v => World.cell?_setCell_far w ⟨g, j, none⟩ ⟨b, o, none⟩ v (fun e => hne e.symm)
  rw [h, h, h, h, h]
theorem BoxAt.setAll {b : Nat} {p : Plan} {v : Value} {w : World} (h : BoxAt b p v w) (q : Plan) (v' : Value) : BoxAt b q v' (((((w.setCell ⟨b, 0, none⟩ (.int .i64 q.prio)).setCell ⟨b, 1, none⟩ (.int .i64 q.most)).setCell ⟨b, 2, none⟩ (.int .i64 q.wait)).setCell ⟨b, 3, none⟩ (.int .i64 q.tasks)).setCell ⟨b, 4, none⟩ v') := by
  obtain ⟨h0, h1, h2, h3, h4, h5⟩ := h.cells
  have hf := h.free
  refine ⟨⟨?_, ?_, ?_, ?_, ?_, by simpa [World.setCell] using h5⟩, fun j => ?_⟩
  all_goals simp [go_sem, h0, h1, h2, h3, h4, hf]
theorem BoxAt.setFar {b g : Nat} {p : Plan} {v : Value} {w : World} (h : BoxAt b p v w) (hne : ¬ b = g) (v0 v1 v2 v3 v4 : Value) : BoxAt b p v (((((w.setCell ⟨g, 0, none⟩ v0).setCell ⟨g, 1, none⟩ v1).setCell ⟨g, 2, none⟩ v2).setCell ⟨g, 3, none⟩ v3).setCell ⟨g, 4, none⟩ v4) :=
  ((((h.other hne v0).other hne v1).other hne v2).other hne v3).other hne v4
theorem Ow.setFar {α : Type} {e : Enc α} {E : TypeId} {w : World} {base g : Nat} {v : Value} {l : List α} (h : Ow e E w base v l) (hne : v.ownBlock ≠ some g) (v0 v1 v2 v3 v4 : Value) : Ow e E (((((w.setCell ⟨g, 0, none⟩ v0).setCell ⟨g, 1, none⟩ v1).setCell ⟨g, 2, none⟩ v2).setCell ⟨g, 3, none⟩ v3).setCell ⟨g, 4, none⟩ v4) base v l :=
  ((((h.setOther (a := ⟨g, 0, none⟩) hne v0).setOther (a := ⟨g, 1, none⟩) hne v1).setOther (a := ⟨g, 2, none⟩) hne v2).setOther (a := ⟨g, 3, none⟩) hne v3).setOther (a := ⟨g, 4, none⟩) hne v4
theorem Below.setFar {B g : Nat} {w0 w : World} (h : Below B w0 w) (hne : B ≤ g) (v0 v1 v2 v3 v4 : Value) : Below B w0 (((((w.setCell ⟨g, 0, none⟩ v0).setCell ⟨g, 1, none⟩ v1).setCell ⟨g, 2, none⟩ v2).setCell ⟨g, 3, none⟩ v3).setCell ⟨g, 4, none⟩ v4) :=
  ((((h.setCell (by exact hne) v0).setCell (by exact hne) v1).setCell (by exact hne) v2).setCell (by exact hne) v3).setCell (by exact hne) v4

end Go.Proofs.Ytoccmpijfggmkaa
