/-
  A plan's variable that lies in memory; what is kept of it when other memory is marked; where a slice of the call's own lies.
-/
import Derived.Test.YtoccmpijfggmkaaPh
namespace Go.Proofs.Ytoccmpijfggmkaa
open Go.RowKit
set_option maxRecDepth 100000

/-- the block that a slice lies in is from lo on and below hi -/
def Within (v : Value) (lo hi : Nat) : Prop := ∀ g, v.ownBlock = some g → lo ≤ g ∧ g < hi
theorem Ow.within {α : Type} {e : Enc α} {E : TypeId} {w : World} {base : Nat} {v : Value} {l : List α} (h : Ow e E w base v l) : Within v base w.heap.size := by
  intro g hg
  rcases h.form with ⟨rfl, _⟩ | ⟨g', cap, rfl, h1, h2, _⟩
  · simp [Value.ownBlock] at hg
  · have : g' = g := by simpa [Value.ownBlock] using hg
    omega
theorem Within.apart {v v' : Value} {a b c d : Nat} (h : Within v a b) (h' : Within v' c d) (hne : b ≤ c ∨ d ≤ a) : v.ownBlock = none ∨ v.ownBlock ≠ v'.ownBlock := by
  cases hv : v.ownBlock with
  | none => exact .inl rfl
  | some g =>
    refine .inr (fun e => ?_)
    have h1 := h g hv
    have h2 := h' g e.symm
    omega
theorem grown_of_below {w w' : World} (h : Below w.heap.size w w') (row : Option Nat) : w.grownBy w' row := ⟨h.os, h.tape, h.output, h.size, fun k hk _ => h.block k hk⟩

/-- block b is the variable of the plan p, whose edges' slice is v -/
structure BoxAt (b : Nat) (p : Plan) (v : Value) (w : World) : Prop where
  cells : w.cell? ⟨b, 0, none⟩ = some (.int .i64 p.prio) ∧ w.cell? ⟨b, 1, none⟩ = some (.int .i64 p.most) ∧ w.cell? ⟨b, 2, none⟩ = some (.int .i64 p.wait) ∧
    w.cell? ⟨b, 3, none⟩ = some (.int .i64 p.tasks) ∧ w.cell? ⟨b, 4, none⟩ = some v ∧ b < w.heap.size

theorem BoxAt.new (T : TypeId) (p : Plan) (v : Value) (w : World) : BoxAt w.heap.size p v (planBox T p v w) := by
  refine ⟨?_, ?_, ?_, ?_, ?_, by rw [planBox_size]; omega⟩
  all_goals simp [planBox, go_sem]
theorem BoxAt.keep {b : Nat} {p : Plan} {v : Value} {w w' : World} (h : BoxAt b p v w) (hs : w.heap.size ≤ w'.heap.size) (hk : ∀ j, w'.cell? ⟨b, j, none⟩ = w.cell? ⟨b, j, none⟩) : BoxAt b p v w' := by
  obtain ⟨h0, h1, h2, h3, h4, h5⟩ := h.cells
  exact ⟨(hk 0).trans h0, (hk 1).trans h1, (hk 2).trans h2, (hk 3).trans h3, (hk 4).trans h4, Nat.lt_of_lt_of_le h5 hs⟩
theorem BoxAt.below {b : Nat} {p : Plan} {v : Value} {w w' : World} (h : BoxAt b p v w) (hb : Below w.heap.size w w') : BoxAt b p v w' :=
  h.keep hb.size fun j => hb.cell (p := ⟨b, j, none⟩) h.cells.2.2.2.2.2
theorem BoxAt.mark {b lo hi : Nat} {p : Plan} {v v' : Value} {w w' : World} (h : BoxAt b p v w) (hg : w.grownBy w' v'.ownBlock) (hi' : Within v' lo hi) (hne : b < lo ∨ hi ≤ b) : BoxAt b p v w' :=
  h.keep hg.size fun j => hg.cell_far ⟨b, j, none⟩ h.cells.2.2.2.2.2 (fun e => by
    have := hi' b e.symm
    omega)

/-- the world with two plans' variables laid -/
def twoBox (T : TypeId) (p : Plan) (ve : Value) (q : Plan) (vf : Value) (w : World) : World := planBox T q vf (planBox T p ve w)
theorem twoBox_at (T : TypeId) (p : Plan) (ve : Value) (q : Plan) (vf : Value) (w : World) :
    BoxAt w.heap.size p ve (twoBox T p ve q vf w) ∧ BoxAt (w.heap.size + 1) q vf (twoBox T p ve q vf w) ∧ Below w.heap.size w (twoBox T p ve q vf w) := by
  refine ⟨(BoxAt.new T p ve w).below (planBox_below _ _ _ _), ?_, bnext (planBox_below T p ve w) (planBox_below _ _ _ _)⟩
  have := BoxAt.new T q vf (planBox T p ve w)
  rw [planBox_size] at this
  exact this
end Go.Proofs.Ytoccmpijfggmkaa
