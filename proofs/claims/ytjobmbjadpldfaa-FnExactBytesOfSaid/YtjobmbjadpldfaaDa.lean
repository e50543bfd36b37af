/-
  The laws' arguments of the deep types, read as data. Written by program (deepargs.py).
-/
import Derived.Test.YtjobmbjadpldfaaTNote
import Derived.Test.YtjobmbjadpldfaaTSeg
import Derived.Test.YtjobmbjadpldfaaTReply
import Derived.Test.YtjobmbjadpldfaaTMemo
import Derived.Test.YtjobmbjadpldfaaTDesk
import Derived.Test.YtjobmbjadpldfaaTFollower
import Derived.Test.YtjobmbjadpldfaaTEngine
namespace Go.Proofs.Ytjobmbjadpldfaa
open Go.ChangeShapes Go.WideShapes Go.ChangeAt Go.RowKit Go.Deep
set_option maxRecDepth 100000
set_option linter.unusedVariables false
set_option linter.unusedSimpArgs false

theorem cells_int : Try.prog.cellsOf 3 = 1 := by kernel_rfl
theorem cells_strD : Try.prog.cellsOf 9 = 1 := by kernel_rfl
theorem cells_booD : Try.prog.cellsOf 4 = 1 := by kernel_rfl
section
variable {H : Type} {enc : TypeId × Value → H} {w : World} {spare : Nat → Bool} {held : Bool} {fuel : Nat} {cs : List Value} {x : DataW H × List MemPlace}
theorem cells_Edge : Try.prog.cellsOf 167 = 2 := by kernel_rfl
theorem read_Edge (h : DataW.trod enc Try.prog w 0 spare held fuel 167 cs = some x) : ∃ (p : Edge) (_s : Unit), cs = [.int .i64 p.fr, .int .i64 p.to] ∧ edgeD.rd w w.heap.size p _s ∧ wfEdge p := by
  obtain ⟨xs, n', _, _, hlen, hxl, hf⟩ := DataW.trod_struct Try.underlying167 h
  rw [cells_Edge] at hlen
  have g0 := hf 0 _ rfl
  have g1 := hf 1 _ rfl
  match xs, hxl, cs, hlen with
  | [y0, y1], _, [c0, c1], _ =>
    obtain ⟨a0, e0, _, w0⟩ := DataW.trod_int Try.underlying3 g0
    obtain ⟨a1, e1, _, w1⟩ := DataW.trod_int Try.underlying3 g1
    simp [cells_int] at e0 e1
    exact ⟨⟨a0, a1⟩, (), by simp [e0, e1], trivial, ⟨wf_of w0, wf_of w1⟩⟩
theorem cells_EdgeS : Try.prog.cellsOf 62 = 1 := by kernel_rfl
theorem read_EdgeS (h : DataW.trod enc Try.prog w 0 spare held fuel 62 cs = some x) : ∃ (s : Sl) (l : List (Edge)), cs = [.slice s.a s.n s.c] ∧ RdL edgeD w w.heap.size s.v l ∧ wfL wfEdge l := by
  haveI : Inhabited ((Edge) × edgeD.S) := ⟨(⟨0, 0⟩, ())⟩
  obtain ⟨v, rs, h1, h2, h3, h4⟩ := read_slice edgeD.enc (fun z : (Edge) × Unit => edgeD.rd w w.heap.size z.1 z.2 ∧ wfEdge z.1) Try.underlying62 (by kernel_rfl) (by decide) (fun n cs' y hy => by
    obtain ⟨p0, s0, e0, h0, k0⟩ := read_Edge hy
    exact ⟨(p0, s0), e0, h0, k0⟩) h
  obtain ⟨A, c, hv, hc, hr⟩ := id h2
  refine ⟨⟨A, rs.length, c⟩, rs.map (·.1), by rw [h1, hv], ⟨rs, rfl, by rw [hv] at h2; exact h2, fun r hr => (h3 r hr).1⟩, by rw [List.length_map]; simpa [maxLen] using h4, fun z hz => ?_⟩
  obtain ⟨r, hr, rfl⟩ := List.mem_map.1 hz
  exact (h3 r hr).2
theorem cells_Plan : Try.prog.cellsOf 64 = 5 := by kernel_rfl
theorem read_Plan (h : DataW.trod enc Try.prog w 0 spare held fuel 64 cs = some x) : ∃ (p : Plan) (s : Sl), cs = [.int .i64 p.prio, .int .i64 p.most, .int .i64 p.wait, .int .i64 p.tasks, .slice s.a s.n s.c] ∧ planD.rd w w.heap.size p s ∧ wfPlan p := by
  obtain ⟨xs, n', _, _, hlen, hxl, hf⟩ := DataW.trod_struct Try.underlying64 h
  rw [cells_Plan] at hlen
  have g0 := hf 0 _ rfl
  have g1 := hf 1 _ rfl
  have g2 := hf 2 _ rfl
  have g3 := hf 3 _ rfl
  have g4 := hf 4 _ rfl
  match xs, hxl, cs, hlen with
  | [y0, y1, y2, y3, y4], _, [c0, c1, c2, c3, c4], _ =>
    obtain ⟨a0, e0, _, w0⟩ := DataW.trod_int Try.underlying3 g0
    obtain ⟨a1, e1, _, w1⟩ := DataW.trod_int Try.underlying3 g1
    obtain ⟨a2, e2, _, w2⟩ := DataW.trod_int Try.underlying3 g2
    obtain ⟨a3, e3, _, w3⟩ := DataW.trod_int Try.underlying3 g3
    obtain ⟨s4, a4, e4, r4, w4⟩ := read_EdgeS g4
    simp [cells_int, cells_EdgeS] at e0 e1 e2 e3 e4
    exact ⟨⟨a0, a1, a2, a3, a4⟩, s4, by simp [e0, e1, e2, e3, e4], r4, ⟨wf_of w0, wf_of w1, wf_of w2, wf_of w3, w4⟩⟩
theorem cells_Deed : Try.prog.cellsOf 66 = 11 := by kernel_rfl
theorem read_Deed (h : DataW.trod enc Try.prog w 0 spare held fuel 66 cs = some x) : ∃ (p : Deed) (s : Sl), cs = [.int .i64 p.kind, .int .i64 p.run, .int .i64 p.plan.prio, .int .i64 p.plan.most, .int .i64 p.plan.wait, .int .i64 p.plan.tasks, .slice s.a s.n s.c, .int .i64 p.task, .int .i64 p.try_, .int .i64 p.worker, .int .i64 p.draw] ∧ deedD.rd w w.heap.size p s ∧ wfDeed p := by
  obtain ⟨xs, n', _, _, hlen, hxl, hf⟩ := DataW.trod_struct Try.underlying66 h
  rw [cells_Deed] at hlen
  have g0 := hf 0 _ rfl
  have g1 := hf 1 _ rfl
  have g2 := hf 2 _ rfl
  have g3 := hf 3 _ rfl
  have g4 := hf 4 _ rfl
  have g5 := hf 5 _ rfl
  have g6 := hf 6 _ rfl
  match xs, hxl, cs, hlen with
  | [y0, y1, y2, y3, y4, y5, y6], _, [c0, c1, c2, c3, c4, c5, c6, c7, c8, c9, c10], _ =>
    obtain ⟨a0, e0, _, w0⟩ := DataW.trod_int Try.underlying3 g0
    obtain ⟨a1, e1, _, w1⟩ := DataW.trod_int Try.underlying3 g1
    obtain ⟨a2, s2, e2, r2, w2⟩ := read_Plan g2
    obtain ⟨a3, e3, _, w3⟩ := DataW.trod_int Try.underlying3 g3
    obtain ⟨a4, e4, _, w4⟩ := DataW.trod_int Try.underlying3 g4
    obtain ⟨a5, e5, _, w5⟩ := DataW.trod_int Try.underlying3 g5
    obtain ⟨a6, e6, _, w6⟩ := DataW.trod_int Try.underlying3 g6
    simp [cells_int, cells_Plan] at e0 e1 e2 e3 e4 e5 e6
    exact ⟨⟨a0, a1, a2, a3, a4, a5, a6⟩, s2, by simp [e0, e1, e2, e3, e4, e5, e6], r2, ⟨wf_of w0, wf_of w1, w2, wf_of w3, wf_of w4, wf_of w5, wf_of w6⟩⟩
theorem cells_Note : Try.prog.cellsOf 68 = 12 := by kernel_rfl
theorem read_Note (h : DataW.trod enc Try.prog w 0 spare held fuel 68 cs = some x) : ∃ (p : Note) (s : Sl), cs = [.int .i64 p.seq, .int .i64 p.deed.kind, .int .i64 p.deed.run, .int .i64 p.deed.plan.prio, .int .i64 p.deed.plan.most, .int .i64 p.deed.plan.wait, .int .i64 p.deed.plan.tasks, .slice s.a s.n s.c, .int .i64 p.deed.task, .int .i64 p.deed.try_, .int .i64 p.deed.worker, .int .i64 p.deed.draw] ∧ noteD.rd w w.heap.size p s ∧ wfNote p := by
  obtain ⟨xs, n', _, _, hlen, hxl, hf⟩ := DataW.trod_struct Try.underlying68 h
  rw [cells_Note] at hlen
  have g0 := hf 0 _ rfl
  have g1 := hf 1 _ rfl
  match xs, hxl, cs, hlen with
  | [y0, y1], _, [c0, c1, c2, c3, c4, c5, c6, c7, c8, c9, c10, c11], _ =>
    obtain ⟨a0, e0, _, w0⟩ := DataW.trod_int Try.underlying3 g0
    obtain ⟨a1, s1, e1, r1, w1⟩ := read_Deed g1
    simp [cells_int, cells_Deed] at e0 e1
    exact ⟨⟨a0, a1⟩, s1, by simp [e0, e1], r1, ⟨wf_of w0, w1⟩⟩
theorem cells_NoteS : Try.prog.cellsOf 22 = 1 := by kernel_rfl
theorem read_NoteS (h : DataW.trod enc Try.prog w 0 spare held fuel 22 cs = some x) : ∃ (s : Sl) (l : List (Note)), cs = [.slice s.a s.n s.c] ∧ RdL noteD w w.heap.size s.v l ∧ wfL wfNote l := by
  haveI : Inhabited ((Note) × noteD.S) := ⟨(⟨0, ⟨0, 0, ⟨0, 0, 0, 0, []⟩, 0, 0, 0, 0⟩⟩, ⟨none, 0, 0⟩)⟩
  obtain ⟨v, rs, h1, h2, h3, h4⟩ := read_slice noteD.enc (fun z : (Note) × Sl => noteD.rd w w.heap.size z.1 z.2 ∧ wfNote z.1) Try.underlying22 (by kernel_rfl) (by decide) (fun n cs' y hy => by
    obtain ⟨p0, s0, e0, h0, k0⟩ := read_Note hy
    exact ⟨(p0, s0), e0, h0, k0⟩) h
  obtain ⟨A, c, hv, hc, hr⟩ := id h2
  refine ⟨⟨A, rs.length, c⟩, rs.map (·.1), by rw [h1, hv], ⟨rs, rfl, by rw [hv] at h2; exact h2, fun r hr => (h3 r hr).1⟩, by rw [List.length_map]; simpa [maxLen] using h4, fun z hz => ?_⟩
  obtain ⟨r, hr, rfl⟩ := List.mem_map.1 hz
  exact (h3 r hr).2
theorem cells_Reply : Try.prog.cellsOf 114 = 4 := by kernel_rfl
theorem read_Reply (h : DataW.trod enc Try.prog w 0 spare held fuel 114 cs = some x) : ∃ (p : Reply) (_s : Unit), cs = [.int .i64 p.code, .int .i64 p.run, .int .i64 p.task, .int .i64 p.try_] ∧ replyD.rd w w.heap.size p _s ∧ wfReply p := by
  obtain ⟨xs, n', _, _, hlen, hxl, hf⟩ := DataW.trod_struct Try.underlying114 h
  rw [cells_Reply] at hlen
  have g0 := hf 0 _ rfl
  have g1 := hf 1 _ rfl
  have g2 := hf 2 _ rfl
  have g3 := hf 3 _ rfl
  match xs, hxl, cs, hlen with
  | [y0, y1, y2, y3], _, [c0, c1, c2, c3], _ =>
    obtain ⟨a0, e0, _, w0⟩ := DataW.trod_int Try.underlying3 g0
    obtain ⟨a1, e1, _, w1⟩ := DataW.trod_int Try.underlying3 g1
    obtain ⟨a2, e2, _, w2⟩ := DataW.trod_int Try.underlying3 g2
    obtain ⟨a3, e3, _, w3⟩ := DataW.trod_int Try.underlying3 g3
    simp [cells_int] at e0 e1 e2 e3
    exact ⟨⟨a0, a1, a2, a3⟩, (), by simp [e0, e1, e2, e3], trivial, ⟨wf_of w0, wf_of w1, wf_of w2, wf_of w3⟩⟩
theorem cells_Entry : Try.prog.cellsOf 162 = 4 := by kernel_rfl
theorem read_Entry (h : DataW.trod enc Try.prog w 0 spare held fuel 162 cs = some x) : ∃ (p : Entry) (_s : Unit), cs = [.int .i64 p.prio, .int .i64 p.seq, .int .i64 p.run, .int .i64 p.task] ∧ entryD.rd w w.heap.size p _s ∧ wfEntry p := by
  obtain ⟨xs, n', _, _, hlen, hxl, hf⟩ := DataW.trod_struct Try.underlying162 h
  rw [cells_Entry] at hlen
  have g0 := hf 0 _ rfl
  have g1 := hf 1 _ rfl
  have g2 := hf 2 _ rfl
  have g3 := hf 3 _ rfl
  match xs, hxl, cs, hlen with
  | [y0, y1, y2, y3], _, [c0, c1, c2, c3], _ =>
    obtain ⟨a0, e0, _, w0⟩ := DataW.trod_int Try.underlying3 g0
    obtain ⟨a1, e1, _, w1⟩ := DataW.trod_int Try.underlying3 g1
    obtain ⟨a2, e2, _, w2⟩ := DataW.trod_int Try.underlying3 g2
    obtain ⟨a3, e3, _, w3⟩ := DataW.trod_int Try.underlying3 g3
    simp [cells_int] at e0 e1 e2 e3
    exact ⟨⟨a0, a1, a2, a3⟩, (), by simp [e0, e1, e2, e3], trivial, ⟨wf_of w0, wf_of w1, wf_of w2, wf_of w3⟩⟩
theorem cells_EntryS : Try.prog.cellsOf 133 = 1 := by kernel_rfl
theorem read_EntryS (h : DataW.trod enc Try.prog w 0 spare held fuel 133 cs = some x) : ∃ (s : Sl) (l : List (Entry)), cs = [.slice s.a s.n s.c] ∧ RdL entryD w w.heap.size s.v l ∧ wfL wfEntry l := by
  haveI : Inhabited ((Entry) × entryD.S) := ⟨(⟨0, 0, 0, 0⟩, ())⟩
  obtain ⟨v, rs, h1, h2, h3, h4⟩ := read_slice entryD.enc (fun z : (Entry) × Unit => entryD.rd w w.heap.size z.1 z.2 ∧ wfEntry z.1) Try.underlying133 (by kernel_rfl) (by decide) (fun n cs' y hy => by
    obtain ⟨p0, s0, e0, h0, k0⟩ := read_Entry hy
    exact ⟨(p0, s0), e0, h0, k0⟩) h
  obtain ⟨A, c, hv, hc, hr⟩ := id h2
  refine ⟨⟨A, rs.length, c⟩, rs.map (·.1), by rw [h1, hv], ⟨rs, rfl, by rw [hv] at h2; exact h2, fun r hr => (h3 r hr).1⟩, by rw [List.length_map]; simpa [maxLen] using h4, fun z hz => ?_⟩
  obtain ⟨r, hr, rfl⟩ := List.mem_map.1 hz
  exact (h3 r hr).2
theorem cells_Task : Try.prog.cellsOf 171 = 4 := by kernel_rfl
theorem read_Task (h : DataW.trod enc Try.prog w 0 spare held fuel 171 cs = some x) : ∃ (p : Task) (_s : Unit), cs = [.int .i64 p.state, .int .i64 p.need, .int .i64 p.try_, .int .i64 p.until_] ∧ taskD.rd w w.heap.size p _s ∧ wfTask p := by
  obtain ⟨xs, n', _, _, hlen, hxl, hf⟩ := DataW.trod_struct Try.underlying171 h
  rw [cells_Task] at hlen
  have g0 := hf 0 _ rfl
  have g1 := hf 1 _ rfl
  have g2 := hf 2 _ rfl
  have g3 := hf 3 _ rfl
  match xs, hxl, cs, hlen with
  | [y0, y1, y2, y3], _, [c0, c1, c2, c3], _ =>
    obtain ⟨a0, e0, _, w0⟩ := DataW.trod_int Try.underlying3 g0
    obtain ⟨a1, e1, _, w1⟩ := DataW.trod_int Try.underlying3 g1
    obtain ⟨a2, e2, _, w2⟩ := DataW.trod_int Try.underlying3 g2
    obtain ⟨a3, e3, _, w3⟩ := DataW.trod_int Try.underlying3 g3
    simp [cells_int] at e0 e1 e2 e3
    exact ⟨⟨a0, a1, a2, a3⟩, (), by simp [e0, e1, e2, e3], trivial, ⟨wf_of w0, wf_of w1, wf_of w2, wf_of w3⟩⟩
theorem cells_TaskS : Try.prog.cellsOf 135 = 1 := by kernel_rfl
theorem read_TaskS (h : DataW.trod enc Try.prog w 0 spare held fuel 135 cs = some x) : ∃ (s : Sl) (l : List (Task)), cs = [.slice s.a s.n s.c] ∧ RdL taskD w w.heap.size s.v l ∧ wfL wfTask l := by
  haveI : Inhabited ((Task) × taskD.S) := ⟨(⟨0, 0, 0, 0⟩, ())⟩
  obtain ⟨v, rs, h1, h2, h3, h4⟩ := read_slice taskD.enc (fun z : (Task) × Unit => taskD.rd w w.heap.size z.1 z.2 ∧ wfTask z.1) Try.underlying135 (by kernel_rfl) (by decide) (fun n cs' y hy => by
    obtain ⟨p0, s0, e0, h0, k0⟩ := read_Task hy
    exact ⟨(p0, s0), e0, h0, k0⟩) h
  obtain ⟨A, c, hv, hc, hr⟩ := id h2
  refine ⟨⟨A, rs.length, c⟩, rs.map (·.1), by rw [h1, hv], ⟨rs, rfl, by rw [hv] at h2; exact h2, fun r hr => (h3 r hr).1⟩, by rw [List.length_map]; simpa [maxLen] using h4, fun z hz => ?_⟩
  obtain ⟨r, hr, rfl⟩ := List.mem_map.1 hz
  exact (h3 r hr).2
theorem cells_Run : Try.prog.cellsOf 137 = 8 := by kernel_rfl
theorem read_Run (h : DataW.trod enc Try.prog w 0 spare held fuel 137 cs = some x) : ∃ (p : Run) (s : Sl × Sl), cs = [.int .i64 p.id, .int .i64 p.plan.prio, .int .i64 p.plan.most, .int .i64 p.plan.wait, .int .i64 p.plan.tasks, .slice s.1.a s.1.n s.1.c, .int .i64 p.state, .slice s.2.a s.2.n s.2.c] ∧ runD.rd w w.heap.size p s ∧ wfRun p := by
  obtain ⟨xs, n', _, _, hlen, hxl, hf⟩ := DataW.trod_struct Try.underlying137 h
  rw [cells_Run] at hlen
  have g0 := hf 0 _ rfl
  have g1 := hf 1 _ rfl
  have g2 := hf 2 _ rfl
  have g3 := hf 3 _ rfl
  match xs, hxl, cs, hlen with
  | [y0, y1, y2, y3], _, [c0, c1, c2, c3, c4, c5, c6, c7], _ =>
    obtain ⟨a0, e0, _, w0⟩ := DataW.trod_int Try.underlying3 g0
    obtain ⟨a1, s1, e1, r1, w1⟩ := read_Plan g1
    obtain ⟨a2, e2, _, w2⟩ := DataW.trod_int Try.underlying3 g2
    obtain ⟨s3, a3, e3, r3, w3⟩ := read_TaskS g3
    simp [cells_int, cells_Plan, cells_TaskS] at e0 e1 e2 e3
    exact ⟨⟨a0, a1, a2, a3⟩, (s1, s3), by simp [e0, e1, e2, e3], ⟨r1, r3⟩, ⟨wf_of w0, w1, wf_of w2, w3⟩⟩
theorem cells_RunS : Try.prog.cellsOf 30 = 1 := by kernel_rfl
theorem read_RunS (h : DataW.trod enc Try.prog w 0 spare held fuel 30 cs = some x) : ∃ (s : Sl) (l : List (Run)), cs = [.slice s.a s.n s.c] ∧ RdL runD w w.heap.size s.v l ∧ wfL wfRun l := by
  haveI : Inhabited ((Run) × runD.S) := ⟨(⟨0, ⟨0, 0, 0, 0, []⟩, 0, []⟩, (⟨none, 0, 0⟩, ⟨none, 0, 0⟩))⟩
  obtain ⟨v, rs, h1, h2, h3, h4⟩ := read_slice runD.enc (fun z : (Run) × Sl × Sl => runD.rd w w.heap.size z.1 z.2 ∧ wfRun z.1) Try.underlying30 (by kernel_rfl) (by decide) (fun n cs' y hy => by
    obtain ⟨p0, s0, e0, h0, k0⟩ := read_Run hy
    exact ⟨(p0, s0), e0, h0, k0⟩) h
  obtain ⟨A, c, hv, hc, hr⟩ := id h2
  refine ⟨⟨A, rs.length, c⟩, rs.map (·.1), by rw [h1, hv], ⟨rs, rfl, by rw [hv] at h2; exact h2, fun r hr => (h3 r hr).1⟩, by rw [List.length_map]; simpa [maxLen] using h4, fun z hz => ?_⟩
  obtain ⟨r, hr, rfl⟩ := List.mem_map.1 hz
  exact (h3 r hr).2
theorem cells_EntrySS : Try.prog.cellsOf 29 = 1 := by kernel_rfl
theorem read_EntrySS (h : DataW.trod enc Try.prog w 0 spare held fuel 29 cs = some x) : ∃ (s : Sl) (l : List (List Entry)), cs = [.slice s.a s.n s.c] ∧ RdL (Dt.list entryD) w w.heap.size s.v l ∧ wfL wfEntryS l := by
  haveI : Inhabited ((List Entry) × (Dt.list entryD).S) := ⟨([], ⟨none, 0, 0⟩)⟩
  obtain ⟨v, rs, h1, h2, h3, h4⟩ := read_slice (Dt.list entryD).enc (fun z : (List Entry) × Sl => (Dt.list entryD).rd w w.heap.size z.1 z.2 ∧ wfEntryS z.1) Try.underlying29 (by kernel_rfl) (by decide) (fun n cs' y hy => by
    obtain ⟨s0, p0, e0, h0, k0⟩ := read_EntryS hy
    exact ⟨(p0, s0), e0, h0, k0⟩) h
  obtain ⟨A, c, hv, hc, hr⟩ := id h2
  refine ⟨⟨A, rs.length, c⟩, rs.map (·.1), by rw [h1, hv], ⟨rs, rfl, by rw [hv] at h2; exact h2, fun r hr => (h3 r hr).1⟩, by rw [List.length_map]; simpa [maxLen] using h4, fun z hz => ?_⟩
  obtain ⟨r, hr, rfl⟩ := List.mem_map.1 hz
  exact (h3 r hr).2
theorem cells_Yard : Try.prog.cellsOf 32 = 4 := by kernel_rfl
theorem read_Yard (h : DataW.trod enc Try.prog w 0 spare held fuel 32 cs = some x) : ∃ (p : Yard) (s : Sl × Sl), cs = [.int .i64 p.now, .int .i64 p.seq, .slice s.1.a s.1.n s.1.c, .slice s.2.a s.2.n s.2.c] ∧ yardD.rd w w.heap.size p s ∧ wfYard p := by
  obtain ⟨xs, n', _, _, hlen, hxl, hf⟩ := DataW.trod_struct Try.underlying32 h
  rw [cells_Yard] at hlen
  have g0 := hf 0 _ rfl
  have g1 := hf 1 _ rfl
  have g2 := hf 2 _ rfl
  have g3 := hf 3 _ rfl
  match xs, hxl, cs, hlen with
  | [y0, y1, y2, y3], _, [c0, c1, c2, c3], _ =>
    obtain ⟨a0, e0, _, w0⟩ := DataW.trod_int Try.underlying3 g0
    obtain ⟨a1, e1, _, w1⟩ := DataW.trod_int Try.underlying3 g1
    obtain ⟨s2, a2, e2, r2, w2⟩ := read_EntrySS g2
    obtain ⟨s3, a3, e3, r3, w3⟩ := read_RunS g3
    simp [cells_int, cells_EntrySS, cells_RunS] at e0 e1 e2 e3
    exact ⟨⟨a0, a1, a2, a3⟩, (s2, s3), by simp [e0, e1, e2, e3], ⟨r2, r3⟩, ⟨wf_of w0, wf_of w1, w2, w3⟩⟩
theorem cells_Follower : Try.prog.cellsOf 34 = 5 := by kernel_rfl
theorem read_Follower (h : DataW.trod enc Try.prog w 0 spare held fuel 34 cs = some x) : ∃ (p : Follower) (s : (Sl × Sl)), cs = [.int .i64 p.yard.now, .int .i64 p.yard.seq, .slice s.1.a s.1.n s.1.c, .slice s.2.a s.2.n s.2.c, .int .i64 p.seq] ∧ followerD.rd w w.heap.size p s ∧ wfFollower p := by
  obtain ⟨xs, n', _, _, hlen, hxl, hf⟩ := DataW.trod_struct Try.underlying34 h
  rw [cells_Follower] at hlen
  have g0 := hf 0 _ rfl
  have g1 := hf 1 _ rfl
  match xs, hxl, cs, hlen with
  | [y0, y1], _, [c0, c1, c2, c3, c4], _ =>
    obtain ⟨a0, s0, e0, r0, w0⟩ := read_Yard g0
    obtain ⟨a1, e1, _, w1⟩ := DataW.trod_int Try.underlying3 g1
    simp [cells_Yard, cells_int] at e0 e1
    exact ⟨⟨a0, a1⟩, s0, by simp [e0, e1], r0, ⟨w0, wf_of w1⟩⟩
theorem cells_File : Try.prog.cellsOf 140 = 3 := by kernel_rfl
theorem read_File (h : DataW.trod enc Try.prog w 0 spare held fuel 140 cs = some x) : ∃ (p : File) (_s : Unit), cs = [.string p.name, .string p.data, .int .i64 p.safe] ∧ fileD.rd w w.heap.size p _s ∧ wfFile p := by
  obtain ⟨xs, n', _, _, hlen, hxl, hf⟩ := DataW.trod_struct Try.underlying140 h
  rw [cells_File] at hlen
  have g0 := hf 0 _ rfl
  have g1 := hf 1 _ rfl
  have g2 := hf 2 _ rfl
  match xs, hxl, cs, hlen with
  | [y0, y1, y2], _, [c0, c1, c2], _ =>
    obtain ⟨a0, e0, _, w0⟩ := DataW.trod_string Try.underlying9 g0
    obtain ⟨a1, e1, _, w1⟩ := DataW.trod_string Try.underlying9 g1
    obtain ⟨a2, e2, _, w2⟩ := DataW.trod_int Try.underlying3 g2
    simp [cells_strD, cells_int] at e0 e1 e2
    exact ⟨⟨a0, a1, a2⟩, (), by simp [e0, e1, e2], trivial, ⟨w0, w1, wf_of w2⟩⟩
theorem cells_FileS : Try.prog.cellsOf 35 = 1 := by kernel_rfl
theorem read_FileS (h : DataW.trod enc Try.prog w 0 spare held fuel 35 cs = some x) : ∃ (s : Sl) (l : List (File)), cs = [.slice s.a s.n s.c] ∧ RdL fileD w w.heap.size s.v l ∧ wfL wfFile l := by
  haveI : Inhabited ((File) × fileD.S) := ⟨(⟨⟨#[]⟩, ⟨#[]⟩, 0⟩, ())⟩
  obtain ⟨v, rs, h1, h2, h3, h4⟩ := read_slice fileD.enc (fun z : (File) × Unit => fileD.rd w w.heap.size z.1 z.2 ∧ wfFile z.1) Try.underlying35 (by kernel_rfl) (by decide) (fun n cs' y hy => by
    obtain ⟨p0, s0, e0, h0, k0⟩ := read_File hy
    exact ⟨(p0, s0), e0, h0, k0⟩) h
  obtain ⟨A, c, hv, hc, hr⟩ := id h2
  refine ⟨⟨A, rs.length, c⟩, rs.map (·.1), by rw [h1, hv], ⟨rs, rfl, by rw [hv] at h2; exact h2, fun r hr => (h3 r hr).1⟩, by rw [List.length_map]; simpa [maxLen] using h4, fun z hz => ?_⟩
  obtain ⟨r, hr, rfl⟩ := List.mem_map.1 hz
  exact (h3 r hr).2
theorem cells_Disk : Try.prog.cellsOf 37 = 1 := by kernel_rfl
theorem read_Disk (h : DataW.trod enc Try.prog w 0 spare held fuel 37 cs = some x) : ∃ (p : Disk) (s : Sl), cs = [.slice s.a s.n s.c] ∧ diskD.rd w w.heap.size p s ∧ wfDisk p := by
  obtain ⟨xs, n', _, _, hlen, hxl, hf⟩ := DataW.trod_struct Try.underlying37 h
  rw [cells_Disk] at hlen
  have g0 := hf 0 _ rfl
  match xs, hxl, cs, hlen with
  | [y0], _, [c0], _ =>
    obtain ⟨s0, a0, e0, r0, w0⟩ := read_FileS g0
    simp [cells_FileS] at e0
    exact ⟨⟨a0⟩, s0, by simp [e0], r0, w0⟩
theorem cells_Wait : Try.prog.cellsOf 116 = 5 := by kernel_rfl
theorem read_Wait (h : DataW.trod enc Try.prog w 0 spare held fuel 116 cs = some x) : ∃ (p : Wait) (_s : Unit), cs = [.int .i64 p.call, .int .i64 p.reply.code, .int .i64 p.reply.run, .int .i64 p.reply.task, .int .i64 p.reply.try_] ∧ waitD.rd w w.heap.size p _s ∧ wfWait p := by
  obtain ⟨xs, n', _, _, hlen, hxl, hf⟩ := DataW.trod_struct Try.underlying116 h
  rw [cells_Wait] at hlen
  have g0 := hf 0 _ rfl
  have g1 := hf 1 _ rfl
  match xs, hxl, cs, hlen with
  | [y0, y1], _, [c0, c1, c2, c3, c4], _ =>
    obtain ⟨a0, e0, _, w0⟩ := DataW.trod_int Try.underlying3 g0
    obtain ⟨a1, s1, e1, r1, w1⟩ := read_Reply g1
    simp [cells_int, cells_Reply] at e0 e1
    exact ⟨⟨a0, a1⟩, (), by simp [e0, e1], trivial, ⟨wf_of w0, w1⟩⟩
theorem cells_WaitS : Try.prog.cellsOf 38 = 1 := by kernel_rfl
theorem read_WaitS (h : DataW.trod enc Try.prog w 0 spare held fuel 38 cs = some x) : ∃ (s : Sl) (l : List (Wait)), cs = [.slice s.a s.n s.c] ∧ RdL waitD w w.heap.size s.v l ∧ wfL wfWait l := by
  haveI : Inhabited ((Wait) × waitD.S) := ⟨(⟨0, ⟨0, 0, 0, 0⟩⟩, ())⟩
  obtain ⟨v, rs, h1, h2, h3, h4⟩ := read_slice waitD.enc (fun z : (Wait) × Unit => waitD.rd w w.heap.size z.1 z.2 ∧ wfWait z.1) Try.underlying38 (by kernel_rfl) (by decide) (fun n cs' y hy => by
    obtain ⟨p0, s0, e0, h0, k0⟩ := read_Wait hy
    exact ⟨(p0, s0), e0, h0, k0⟩) h
  obtain ⟨A, c, hv, hc, hr⟩ := id h2
  refine ⟨⟨A, rs.length, c⟩, rs.map (·.1), by rw [h1, hv], ⟨rs, rfl, by rw [hv] at h2; exact h2, fun r hr => (h3 r hr).1⟩, by rw [List.length_map]; simpa [maxLen] using h4, fun z hz => ?_⟩
  obtain ⟨r, hr, rfl⟩ := List.mem_map.1 hz
  exact (h3 r hr).2
theorem cells_Engine : Try.prog.cellsOf 40 = 10 := by kernel_rfl
theorem read_Engine (h : DataW.trod enc Try.prog w 0 spare held fuel 40 cs = some x) : ∃ (p : Engine) (s : (Sl × Sl) × Sl × Sl), cs = [.int .i64 p.yard.now, .int .i64 p.yard.seq, .slice s.1.1.a s.1.1.n s.1.1.c, .slice s.1.2.a s.1.2.n s.1.2.c, .slice s.2.1.a s.2.1.n s.2.1.c, .int .i64 p.next, .int .i64 p.calls, .slice s.2.2.a s.2.2.n s.2.2.c, .int .i64 p.state, .bool p.broken] ∧ engineD.rd w w.heap.size p s ∧ wfEngine p := by
  obtain ⟨xs, n', _, _, hlen, hxl, hf⟩ := DataW.trod_struct Try.underlying40 h
  rw [cells_Engine] at hlen
  have g0 := hf 0 _ rfl
  have g1 := hf 1 _ rfl
  have g2 := hf 2 _ rfl
  have g3 := hf 3 _ rfl
  have g4 := hf 4 _ rfl
  have g5 := hf 5 _ rfl
  have g6 := hf 6 _ rfl
  match xs, hxl, cs, hlen with
  | [y0, y1, y2, y3, y4, y5, y6], _, [c0, c1, c2, c3, c4, c5, c6, c7, c8, c9], _ =>
    obtain ⟨a0, s0, e0, r0, w0⟩ := read_Yard g0
    obtain ⟨a1, s1, e1, r1, w1⟩ := read_Disk g1
    obtain ⟨a2, e2, _, w2⟩ := DataW.trod_int Try.underlying3 g2
    obtain ⟨a3, e3, _, w3⟩ := DataW.trod_int Try.underlying3 g3
    obtain ⟨s4, a4, e4, r4, w4⟩ := read_WaitS g4
    obtain ⟨a5, e5, _, w5⟩ := DataW.trod_int Try.underlying3 g5
    obtain ⟨a6, e6, _⟩ := DataW.trod_bool Try.underlying4 g6
    simp [cells_Yard, cells_Disk, cells_int, cells_WaitS, cells_booD] at e0 e1 e2 e3 e4 e5 e6
    exact ⟨⟨a0, a1, a2, a3, a4, a5, a6⟩, (s0, s1, s4), by simp [e0, e1, e2, e3, e4, e5, e6], ⟨r0, r1, r4⟩, ⟨w0, w1, wf_of w2, wf_of w3, w4, wf_of w5⟩⟩
end
end Go.Proofs.Ytjobmbjadpldfaa
