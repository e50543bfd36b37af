/-
  The laws' arguments, read as data.
-/
import Derived.Test.YtoccmpijfggmkaaRead
import Derived.Test.YtoccmpijfggmkaaSl
import Derived.Test.YtoccmpijfggmkaaFe
import Derived.Test.YtoccmpijfggmkaaPl
namespace Go.Proofs.Ytoccmpijfggmkaa
open Go.ChangeShapes Go.WideShapes Go.ChangeAt Go.RowKit Go.Deep
set_option maxRecDepth 100000

theorem cells_int : Try.prog.cellsOf 3 = 1 := by kernel_rfl
theorem cells_string : Try.prog.cellsOf 9 = 1 := by kernel_rfl

section
variable {H : Type} {enc : TypeId × Value → H} {w : World} {spare : Nat → Bool} {held : Bool} {fuel : Nat} {cs : List Value} {x : DataW H × List MemPlace}

theorem read_slotS (h : DataW.trod enc Try.prog w 0 spare held fuel 22 cs = some x) : ∃ (v : Value) (l : List Slot), cs = [v] ∧ Rd slotE w w.heap.size v l ∧ l.length ≤ maxLen := by
  obtain ⟨v, l, h1, h2, _, h3⟩ := read_slice slotE (fun _ => True) Try.underlying22 (by kernel_rfl) (by decide) (fun n cs' y hy => by
    obtain ⟨xs, n', _, _, hlen, hxl, hf⟩ := DataW.trod_struct Try.underlying93 hy
    have g0 := hf 0 _ rfl
    have g1 := hf 1 _ rfl
    have g2 := hf 2 _ rfl
    have g3 := hf 3 _ rfl
    match xs, hxl, cs', hlen with
    | [y0, y1, y2, y3], _, [c0, c1, c2, c3], _ =>
      obtain ⟨a0, e0, _, _⟩ := DataW.trod_int Try.underlying3 g0
      obtain ⟨a1, e1, _, _⟩ := DataW.trod_int Try.underlying3 g1
      obtain ⟨a2, e2, _, _⟩ := DataW.trod_int Try.underlying3 g2
      obtain ⟨a3, e3, _, _⟩ := DataW.trod_int Try.underlying3 g3
      simp [cells_int] at e0 e1 e2 e3
      exact ⟨⟨a0, a1, a2, a3⟩, by rw [e0, e1, e2, e3]; rfl, trivial⟩) h
  exact ⟨v, l, h1, h2, h3⟩

theorem read_fenceS (h : DataW.trod enc Try.prog w 0 spare held fuel 29 cs = some x) : ∃ (v : Value) (l : List Fence), cs = [v] ∧ Rd fenceE w w.heap.size v l ∧ l.length ≤ maxLen ∧ (∀ s ∈ l, s.text.size ≤ maxLen) := by
  obtain ⟨v, l, h1, h2, h4, h3⟩ := read_slice fenceE (fun s => s.text.size ≤ maxLen) Try.underlying29 (by kernel_rfl) (by decide) (fun n cs' y hy => by
    obtain ⟨xs, n', _, _, hlen, hxl, hf⟩ := DataW.trod_struct Try.underlying76 hy
    have g0 := hf 0 _ rfl
    have g1 := hf 1 _ rfl
    have g2 := hf 2 _ rfl
    have g3 := hf 3 _ rfl
    match xs, hxl, cs', hlen with
    | [y0, y1, y2, y3], _, [c0, c1, c2, c3], _ =>
      obtain ⟨a0, e0, _, _⟩ := DataW.trod_int Try.underlying3 g0
      obtain ⟨a1, e1, _, _⟩ := DataW.trod_int Try.underlying3 g1
      obtain ⟨a2, e2, _, _⟩ := DataW.trod_int Try.underlying3 g2
      obtain ⟨a3, e3, _, hs⟩ := DataW.trod_string Try.underlying9 g3
      simp [cells_int, cells_string] at e0 e1 e2 e3
      exact ⟨⟨a0, a1, a2, a3⟩, by rw [e0, e1, e2, e3]; rfl, hs⟩) h
  exact ⟨v, l, h1, h2, h3, h4⟩

theorem read_fence (h : DataW.trod enc Try.prog w 0 spare held fuel 76 cs = some x) : ∃ f : Fence, cs = [.int .i64 f.run, .int .i64 f.task, .int .i64 f.try_, .string f.text] ∧ f.text.size ≤ maxLen := by
  obtain ⟨xs, n', _, _, hlen, hxl, hf⟩ := DataW.trod_struct Try.underlying76 h
  have g0 := hf 0 _ rfl
  have g1 := hf 1 _ rfl
  have g2 := hf 2 _ rfl
  have g3 := hf 3 _ rfl
  match xs, hxl, cs, hlen with
  | [y0, y1, y2, y3], _, [c0, c1, c2, c3], _ =>
    obtain ⟨a0, e0, _, _⟩ := DataW.trod_int Try.underlying3 g0
    obtain ⟨a1, e1, _, _⟩ := DataW.trod_int Try.underlying3 g1
    obtain ⟨a2, e2, _, _⟩ := DataW.trod_int Try.underlying3 g2
    obtain ⟨a3, e3, _, hs⟩ := DataW.trod_string Try.underlying9 g3
    simp [cells_int, cells_string] at e0 e1 e2 e3
    exact ⟨⟨a0, a1, a2, a3⟩, by rw [e0, e1, e2, e3], hs⟩

theorem read_edgeS (h : DataW.trod enc Try.prog w 0 spare held fuel 40 cs = some x) : ∃ (v : Value) (l : List Edge), cs = [v] ∧ Rd edgeE w w.heap.size v l ∧ l.length ≤ maxLen := by
  obtain ⟨v, l, h1, h2, _, h3⟩ := read_slice edgeE (fun _ => True) Try.underlying40 (by kernel_rfl) (by decide) (fun n cs' y hy => by
    obtain ⟨xs, n', _, _, hlen, hxl, hf⟩ := DataW.trod_struct Try.underlying119 hy
    have g0 := hf 0 _ rfl
    have g1 := hf 1 _ rfl
    match xs, hxl, cs', hlen with
    | [y0, y1], _, [c0, c1], _ =>
      obtain ⟨a0, e0, _, _⟩ := DataW.trod_int Try.underlying3 g0
      obtain ⟨a1, e1, _, _⟩ := DataW.trod_int Try.underlying3 g1
      simp [cells_int] at e0 e1
      exact ⟨⟨a0, a1⟩, by rw [e0, e1]; rfl, trivial⟩) h
  exact ⟨v, l, h1, h2, h3⟩

theorem read_intS (h : DataW.trod enc Try.prog w 0 spare held fuel 50 cs = some x) : ∃ (v : Value) (l : List Int), cs = [v] ∧ Rd intE w w.heap.size v l ∧ l.length ≤ maxLen ∧ (∀ s ∈ l, Wf s) := by
  obtain ⟨v, l, h1, h2, h4, h3⟩ := read_slice intE Wf Try.underlying50 (by kernel_rfl) (by decide) (fun n cs' y hy => by
    obtain ⟨a0, e0, _, hw⟩ := DataW.trod_int Try.underlying3 hy
    exact ⟨a0, by rw [e0]; rfl, wf_of hw⟩) h
  exact ⟨v, l, h1, h2, h3, h4⟩

theorem cells_edgeS : Try.prog.cellsOf 40 = 1 := by kernel_rfl
theorem read_plan (h : DataW.trod enc Try.prog w 0 spare held fuel 42 cs = some x) : ∃ (ve : Value) (pl : Plan), cs = [.int .i64 pl.prio, .int .i64 pl.most, .int .i64 pl.wait, .int .i64 pl.tasks, ve] ∧ Rd edgeE w w.heap.size ve pl.edges ∧ pl.edges.length ≤ maxLen := by
  obtain ⟨xs, n', _, _, hlen, hxl, hf⟩ := DataW.trod_struct Try.underlying42 h
  have g0 := hf 0 _ rfl
  have g1 := hf 1 _ rfl
  have g2 := hf 2 _ rfl
  have g3 := hf 3 _ rfl
  have g4 := hf 4 _ rfl
  match xs, hxl, cs, hlen with
  | [y0, y1, y2, y3, y4], _, [c0, c1, c2, c3, c4], _ =>
    obtain ⟨a0, e0, _, _⟩ := DataW.trod_int Try.underlying3 g0
    obtain ⟨a1, e1, _, _⟩ := DataW.trod_int Try.underlying3 g1
    obtain ⟨a2, e2, _, _⟩ := DataW.trod_int Try.underlying3 g2
    obtain ⟨a3, e3, _, _⟩ := DataW.trod_int Try.underlying3 g3
    obtain ⟨v, l, e4, hr, hl⟩ := read_edgeS g4
    simp [cells_int, cells_edgeS] at e0 e1 e2 e3 e4
    exact ⟨v, ⟨a0, a1, a2, a3, l⟩, by rw [e0, e1, e2, e3, e4], hr, hl⟩
end
end Go.Proofs.Ytoccmpijfggmkaa
