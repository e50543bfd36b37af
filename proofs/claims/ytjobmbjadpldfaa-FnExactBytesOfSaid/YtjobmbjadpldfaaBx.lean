/-
  A plan's variable that lies in memory; what is kept of it when other memory is marked; where a slice of the call's own lies.
-/
import Derived.Test.YtjobmbjadpldfaaPh
namespace Go.Proofs.Ytjobmbjadpldfaa
open Go.RowKit
set_option maxRecDepth 100000

/-- the block that a slice lies in is from lo on and below hi -/
def Within (v : Value) (lo hi : Nat) : Prop := ∀ g, v.ownBlock = some g → lo ≤ g ∧ g < hi
theorem Ow.within {α : Type} {e : Enc α} {E : TypeId} {w : World} {base : Nat} {v : Value} {l : List α} (h : Ow e E w base v l) : Within v base w.heap.size := by
  intro g hg
  rcases h.form with ⟨rfl, _⟩ | ⟨g', cap, rfl, h1, h2, _⟩
  · simp [Value.ownBlock] at hg
  · have : g' = g := by simpa [Value.ownBlock] using hg
    omega
theorem Within.apart {v v' : Value} {a b c d : Nat} (h : Within v a b) (h' : Within v' c d) (hne : b ≤ c ∨ d ≤ a) : v.ownBlock = none ∨ v.ownBlock ≠ v'.ownBlock := by
  cases hv : v.ownBlock with
  | none => exact .inl rfl
  | some g =>
    refine .inr (fun e => ?_)
    have h1 := h g hv
    have h2 := h' g e.symm
    omega
theorem grown_of_below {w w' : World} (h : Below w.heap.size w w') (row : Option Nat) : w.grownBy w' row := ⟨h.os, h.tape, h.output, h.size, fun k hk _ => h.block k hk⟩

/-- block b is the variable of the plan p, whose edges' slice is v -/
structure BoxAt (b : Nat) (p : Plan) (v : Value) (w : World) : Prop where
  cells : w.cell? ⟨b, 0, none⟩ = some (.int .i64 p.prio) ∧ w.cell? ⟨b, 1, none⟩ = some (.int .i64 p.most) ∧ w.cell? ⟨b, 2, none⟩ = some (.int .i64 p.wait) ∧
    w.cell? ⟨b, 3, none⟩ = some (.int .i64 p.tasks) ∧ w.cell? ⟨b, 4, none⟩ = some v ∧ b < w.heap.size
  free : ∀ j, w.frozen? ⟨b, j, none⟩ = false

theorem BoxAt.lt {b : Nat} {p : Plan} {v : Value} {w : World} (h : BoxAt b p v w) : b < w.heap.size := h.cells.2.2.2.2.2
theorem BoxAt.new' (T : TypeId) (p : Plan) (v : Value) (w : World) {b : Nat} (hb : b = w.heap.size) : BoxAt b p v (w.alloc (.cells #[.int .i64 p.prio, .int .i64 p.most, .int .i64 p.wait, .int .i64 p.tasks, v] T)) := by
  subst hb
  refine ⟨⟨?_, ?_, ?_, ?_, ?_, by simp⟩, fun j => ?_⟩
  all_goals simp [go_sem]
theorem BoxAt.new (T : TypeId) (p : Plan) (v : Value) (w : World) : BoxAt w.heap.size p v (planBox T p v w) := BoxAt.new' T p v w rfl
theorem BoxAt.keep {b : Nat} {p : Plan} {v : Value} {w w' : World} (h : BoxAt b p v w) (hs : w.heap.size ≤ w'.heap.size) (hk : ∀ j, w'.cell? ⟨b, j, none⟩ = w.cell? ⟨b, j, none⟩) (hf : ∀ j, w'.frozen? ⟨b, j, none⟩ = w.frozen? ⟨b, j, none⟩) : BoxAt b p v w' := by
  obtain ⟨h0, h1, h2, h3, h4, h5⟩ := h.cells
  exact ⟨⟨(hk 0).trans h0, (hk 1).trans h1, (hk 2).trans h2, (hk 3).trans h3, (hk 4).trans h4, Nat.lt_of_lt_of_le h5 hs⟩, fun j => (hf j).trans (h.free j)⟩
theorem BoxAt.upto {B b : Nat} {p : Plan} {v : Value} {w w' : World} (h : BoxAt b p v w) (hb : Below B w w') (hlt : b < B) : BoxAt b p v w' :=
  h.keep hb.size (fun j => hb.cell (p := ⟨b, j, none⟩) hlt) (fun j => hb.frozen (p := ⟨b, j, none⟩) hlt)
theorem BoxAt.below {b : Nat} {p : Plan} {v : Value} {w w' : World} (h : BoxAt b p v w) (hb : Below w.heap.size w w') : BoxAt b p v w' := h.upto hb h.lt
theorem BoxAt.far {b : Nat} {p : Plan} {v : Value} {w w' : World} {row : Option Nat} (h : BoxAt b p v w) (hg : w.grownBy w' row) (hne : some b ≠ row) : BoxAt b p v w' :=
  h.keep hg.size (fun j => hg.cell_far ⟨b, j, none⟩ h.lt hne) (fun j => hg.frozen_far ⟨b, j, none⟩ h.lt hne)
theorem BoxAt.mark {b lo hi : Nat} {p : Plan} {v v' : Value} {w w' : World} (h : BoxAt b p v w) (hg : w.grownBy w' v'.ownBlock) (hi' : Within v' lo hi) (hne : b < lo ∨ hi ≤ b) : BoxAt b p v w' :=
  h.far hg (fun e => by
    have := hi' b e.symm
    omega)
theorem BoxAt.other {b : Nat} {p : Plan} {v : Value} {w : World} (h : BoxAt b p v w) {a : Addr} (hne : b ≠ a.block) (u : Value) : BoxAt b p v (w.setCell a u) :=
  h.keep (by simp [World.setCell]) (fun j => World.cell?_of_block (Below.heap_setCell w a u b hne)) (fun j => World.frozen?_of_block (Below.heap_setCell w a u b hne))
theorem BoxAt.setTasks {b : Nat} {p : Plan} {v : Value} {w : World} (h : BoxAt b p v w) (t : Int) : BoxAt b { p with tasks := t } v (w.setCell ⟨b, 3, none⟩ (.int .i64 t)) := by
  obtain ⟨h0, h1, h2, h3, h4, h5⟩ := h.cells
  have hf := h.free
  refine ⟨⟨?_, ?_, ?_, ?_, ?_, by simpa [World.setCell] using h5⟩, fun j => ?_⟩
  all_goals simp [go_sem, h0, h1, h2, h3, h4, hf]
theorem BoxAt.setEdges {b : Nat} {p : Plan} {v : Value} {w : World} (h : BoxAt b p v w) (l : List Edge) (v' : Value) : BoxAt b { p with edges := l } v' (w.setCell ⟨b, 4, none⟩ v') := by
  obtain ⟨h0, h1, h2, h3, h4, h5⟩ := h.cells
  have hf := h.free
  refine ⟨⟨?_, ?_, ?_, ?_, ?_, by simpa [World.setCell] using h5⟩, fun j => ?_⟩
  all_goals simp [go_sem, h0, h1, h2, h3, h4, hf]
theorem grown_setCell (w : World) (a : Addr) (u : Value) : w.grownBy (w.setCell a u) (some a.block) :=
  ⟨rfl, rfl, rfl, by simp [World.setCell], fun k _ hne => Below.heap_setCell w a u k (fun e => hne (by rw [e]))⟩
theorem Ow.setOther {α : Type} {e : Enc α} {E : TypeId} {w : World} {base : Nat} {v : Value} {l : List α} (h : Ow e E w base v l) {a : Addr} (hne : v.ownBlock ≠ some a.block) (u : Value) : Ow e E (w.setCell a u) base v l :=
  h.grown (grown_setCell w a u) (.inr hne)
/-- block b is the variable of the edge e -/
structure EdgeAt (b : Nat) (e : Edge) (w : World) : Prop where
  cells : w.cell? ⟨b, 0, none⟩ = some (.int .i64 e.fr) ∧ w.cell? ⟨b, 1, none⟩ = some (.int .i64 e.to) ∧ b < w.heap.size
theorem EdgeAt.new (T : TypeId) (e : Edge) (w : World) : EdgeAt w.heap.size e (w.alloc (.cells #[.int .i64 e.fr, .int .i64 e.to] T)) := by
  refine ⟨?_, ?_, by simp⟩
  all_goals simp [go_sem]
theorem EdgeAt.below {b : Nat} {e : Edge} {w w' : World} (h : EdgeAt b e w) (hb : Below w.heap.size w w') : EdgeAt b e w' := by
  obtain ⟨h0, h1, h2⟩ := h.cells
  exact ⟨(hb.cell (p := ⟨b, 0, none⟩) h2).trans h0, (hb.cell (p := ⟨b, 1, none⟩) h2).trans h1, Nat.lt_of_lt_of_le h2 hb.size⟩

theorem Ow.some_ {α : Type} {e : Enc α} {E : TypeId} {w : World} {base n c : Nat} {A : Option Addr} {l : List α} (h : Ow e E w base (.slice A n c) l) (hp : 0 < l.length) : ∃ g, A = some ⟨g, 0, none⟩ ∧ base ≤ g ∧ g < w.heap.size := by
  rcases h.form with ⟨_, e0⟩ | ⟨g, cap, e1, h1, h2, _⟩
  · rw [e0] at hp; simp at hp
  · simp only [Value.slice.injEq] at e1
    exact ⟨g, e1.1, h1, h2⟩

/-- the world with two plans' variables laid -/
def twoBox (T : TypeId) (p : Plan) (ve : Value) (q : Plan) (vf : Value) (w : World) : World := planBox T q vf (planBox T p ve w)
theorem twoBox_at (T : TypeId) (p : Plan) (ve : Value) (q : Plan) (vf : Value) (w : World) :
    BoxAt w.heap.size p ve (twoBox T p ve q vf w) ∧ BoxAt (w.heap.size + 1) q vf (twoBox T p ve q vf w) ∧ Below w.heap.size w (twoBox T p ve q vf w) := by
  refine ⟨(BoxAt.new T p ve w).below (planBox_below _ _ _ _), ?_, bnext (planBox_below T p ve w) (planBox_below _ _ _ _)⟩
  have := BoxAt.new T q vf (planBox T p ve w)
  rw [planBox_size] at this
  exact this
end Go.Proofs.Ytjobmbjadpldfaa
