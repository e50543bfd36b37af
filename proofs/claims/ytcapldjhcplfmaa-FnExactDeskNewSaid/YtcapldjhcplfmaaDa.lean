/-
  The laws' arguments of the deep types, read as data. Written by program (deepargs.py).
-/
import Derived.Test.YtcapldjhcplfmaaTNote
import Derived.Test.YtcapldjhcplfmaaTSeg
import Derived.Test.YtcapldjhcplfmaaTReply
import Derived.Test.YtcapldjhcplfmaaTMemo
import Derived.Test.YtcapldjhcplfmaaTDesk
import Derived.Test.YtcapldjhcplfmaaTFollower
namespace Go.Proofs.Ytcapldjhcplfmaa
open Go.ChangeShapes Go.WideShapes Go.ChangeAt Go.RowKit Go.Deep
set_option maxRecDepth 100000
set_option linter.unusedVariables false
set_option linter.unusedSimpArgs false

theorem cells_int : Try.prog.cellsOf 3 = 1 := by kernel_rfl
section
variable {H : Type} {enc : TypeId × Value → H} {w : World} {spare : Nat → Bool} {held : Bool} {fuel : Nat} {cs : List Value} {x : DataW H × List MemPlace}
theorem cells_Edge : Try.prog.cellsOf 251 = 2 := by kernel_rfl
theorem read_Edge (h : DataW.trod enc Try.prog w 0 spare held fuel 251 cs = some x) : ∃ (p : Edge) (_s : Unit), cs = [.int .i64 p.fr, .int .i64 p.to] ∧ edgeD.rd w w.heap.size p _s ∧ wfEdge p := by
  obtain ⟨xs, n', _, _, hlen, hxl, hf⟩ := DataW.trod_struct Try.underlying251 h
  rw [cells_Edge] at hlen
  have g0 := hf 0 _ rfl
  have g1 := hf 1 _ rfl
  match xs, hxl, cs, hlen with
  | [y0, y1], _, [c0, c1], _ =>
    obtain ⟨a0, e0, _, w0⟩ := DataW.trod_int Try.underlying3 g0
    obtain ⟨a1, e1, _, w1⟩ := DataW.trod_int Try.underlying3 g1
    simp [cells_int] at e0 e1
    exact ⟨⟨a0, a1⟩, (), by simp [e0, e1], trivial, ⟨wf_of w0, wf_of w1⟩⟩
theorem cells_EdgeS : Try.prog.cellsOf 139 = 1 := by kernel_rfl
theorem read_EdgeS (h : DataW.trod enc Try.prog w 0 spare held fuel 139 cs = some x) : ∃ (s : Sl) (l : List (Edge)), cs = [.slice s.a s.n s.c] ∧ RdL edgeD w w.heap.size s.v l ∧ wfL wfEdge l := by
  haveI : Inhabited ((Edge) × edgeD.S) := ⟨(⟨0, 0⟩, ())⟩
  obtain ⟨v, rs, h1, h2, h3, h4⟩ := read_slice edgeD.enc (fun z : (Edge) × Unit => edgeD.rd w w.heap.size z.1 z.2 ∧ wfEdge z.1) Try.underlying139 (by kernel_rfl) (by decide) (fun n cs' y hy => by
    obtain ⟨p0, s0, e0, h0, k0⟩ := read_Edge hy
    exact ⟨(p0, s0), e0, h0, k0⟩) h
  obtain ⟨A, c, hv, hc, hr⟩ := id h2
  refine ⟨⟨A, rs.length, c⟩, rs.map (·.1), by rw [h1, hv], ⟨rs, rfl, by rw [hv] at h2; exact h2, fun r hr => (h3 r hr).1⟩, by rw [List.length_map]; simpa [maxLen] using h4, fun z hz => ?_⟩
  obtain ⟨r, hr, rfl⟩ := List.mem_map.1 hz
  exact (h3 r hr).2
theorem cells_Plan : Try.prog.cellsOf 141 = 5 := by kernel_rfl
theorem read_Plan (h : DataW.trod enc Try.prog w 0 spare held fuel 141 cs = some x) : ∃ (p : Plan) (s : Sl), cs = [.int .i64 p.prio, .int .i64 p.most, .int .i64 p.wait, .int .i64 p.tasks, .slice s.a s.n s.c] ∧ planD.rd w w.heap.size p s ∧ wfPlan p := by
  obtain ⟨xs, n', _, _, hlen, hxl, hf⟩ := DataW.trod_struct Try.underlying141 h
  rw [cells_Plan] at hlen
  have g0 := hf 0 _ rfl
  have g1 := hf 1 _ rfl
  have g2 := hf 2 _ rfl
  have g3 := hf 3 _ rfl
  have g4 := hf 4 _ rfl
  match xs, hxl, cs, hlen with
  | [y0, y1, y2, y3, y4], _, [c0, c1, c2, c3, c4], _ =>
    obtain ⟨a0, e0, _, w0⟩ := DataW.trod_int Try.underlying3 g0
    obtain ⟨a1, e1, _, w1⟩ := DataW.trod_int Try.underlying3 g1
    obtain ⟨a2, e2, _, w2⟩ := DataW.trod_int Try.underlying3 g2
    obtain ⟨a3, e3, _, w3⟩ := DataW.trod_int Try.underlying3 g3
    obtain ⟨s4, a4, e4, r4, w4⟩ := read_EdgeS g4
    simp [cells_int, cells_EdgeS] at e0 e1 e2 e3 e4
    exact ⟨⟨a0, a1, a2, a3, a4⟩, s4, by simp [e0, e1, e2, e3, e4], r4, ⟨wf_of w0, wf_of w1, wf_of w2, wf_of w3, w4⟩⟩
theorem cells_Deed : Try.prog.cellsOf 143 = 11 := by kernel_rfl
theorem read_Deed (h : DataW.trod enc Try.prog w 0 spare held fuel 143 cs = some x) : ∃ (p : Deed) (s : Sl), cs = [.int .i64 p.kind, .int .i64 p.run, .int .i64 p.plan.prio, .int .i64 p.plan.most, .int .i64 p.plan.wait, .int .i64 p.plan.tasks, .slice s.a s.n s.c, .int .i64 p.task, .int .i64 p.try_, .int .i64 p.worker, .int .i64 p.draw] ∧ deedD.rd w w.heap.size p s ∧ wfDeed p := by
  obtain ⟨xs, n', _, _, hlen, hxl, hf⟩ := DataW.trod_struct Try.underlying143 h
  rw [cells_Deed] at hlen
  have g0 := hf 0 _ rfl
  have g1 := hf 1 _ rfl
  have g2 := hf 2 _ rfl
  have g3 := hf 3 _ rfl
  have g4 := hf 4 _ rfl
  have g5 := hf 5 _ rfl
  have g6 := hf 6 _ rfl
  match xs, hxl, cs, hlen with
  | [y0, y1, y2, y3, y4, y5, y6], _, [c0, c1, c2, c3, c4, c5, c6, c7, c8, c9, c10], _ =>
    obtain ⟨a0, e0, _, w0⟩ := DataW.trod_int Try.underlying3 g0
    obtain ⟨a1, e1, _, w1⟩ := DataW.trod_int Try.underlying3 g1
    obtain ⟨a2, s2, e2, r2, w2⟩ := read_Plan g2
    obtain ⟨a3, e3, _, w3⟩ := DataW.trod_int Try.underlying3 g3
    obtain ⟨a4, e4, _, w4⟩ := DataW.trod_int Try.underlying3 g4
    obtain ⟨a5, e5, _, w5⟩ := DataW.trod_int Try.underlying3 g5
    obtain ⟨a6, e6, _, w6⟩ := DataW.trod_int Try.underlying3 g6
    simp [cells_int, cells_Plan] at e0 e1 e2 e3 e4 e5 e6
    exact ⟨⟨a0, a1, a2, a3, a4, a5, a6⟩, s2, by simp [e0, e1, e2, e3, e4, e5, e6], r2, ⟨wf_of w0, wf_of w1, w2, wf_of w3, wf_of w4, wf_of w5, wf_of w6⟩⟩
theorem cells_DeedS : Try.prog.cellsOf 31 = 1 := by kernel_rfl
theorem read_DeedS (h : DataW.trod enc Try.prog w 0 spare held fuel 31 cs = some x) : ∃ (s : Sl) (l : List (Deed)), cs = [.slice s.a s.n s.c] ∧ RdL deedD w w.heap.size s.v l ∧ wfL wfDeed l := by
  haveI : Inhabited ((Deed) × deedD.S) := ⟨(⟨0, 0, ⟨0, 0, 0, 0, []⟩, 0, 0, 0, 0⟩, ⟨none, 0, 0⟩)⟩
  obtain ⟨v, rs, h1, h2, h3, h4⟩ := read_slice deedD.enc (fun z : (Deed) × Sl => deedD.rd w w.heap.size z.1 z.2 ∧ wfDeed z.1) Try.underlying31 (by kernel_rfl) (by decide) (fun n cs' y hy => by
    obtain ⟨p0, s0, e0, h0, k0⟩ := read_Deed hy
    exact ⟨(p0, s0), e0, h0, k0⟩) h
  obtain ⟨A, c, hv, hc, hr⟩ := id h2
  refine ⟨⟨A, rs.length, c⟩, rs.map (·.1), by rw [h1, hv], ⟨rs, rfl, by rw [hv] at h2; exact h2, fun r hr => (h3 r hr).1⟩, by rw [List.length_map]; simpa [maxLen] using h4, fun z hz => ?_⟩
  obtain ⟨r, hr, rfl⟩ := List.mem_map.1 hz
  exact (h3 r hr).2
theorem cells_Note : Try.prog.cellsOf 172 = 12 := by kernel_rfl
theorem read_Note (h : DataW.trod enc Try.prog w 0 spare held fuel 172 cs = some x) : ∃ (p : Note) (s : Sl), cs = [.int .i64 p.seq, .int .i64 p.deed.kind, .int .i64 p.deed.run, .int .i64 p.deed.plan.prio, .int .i64 p.deed.plan.most, .int .i64 p.deed.plan.wait, .int .i64 p.deed.plan.tasks, .slice s.a s.n s.c, .int .i64 p.deed.task, .int .i64 p.deed.try_, .int .i64 p.deed.worker, .int .i64 p.deed.draw] ∧ noteD.rd w w.heap.size p s ∧ wfNote p := by
  obtain ⟨xs, n', _, _, hlen, hxl, hf⟩ := DataW.trod_struct Try.underlying172 h
  rw [cells_Note] at hlen
  have g0 := hf 0 _ rfl
  have g1 := hf 1 _ rfl
  match xs, hxl, cs, hlen with
  | [y0, y1], _, [c0, c1, c2, c3, c4, c5, c6, c7, c8, c9, c10, c11], _ =>
    obtain ⟨a0, e0, _, w0⟩ := DataW.trod_int Try.underlying3 g0
    obtain ⟨a1, s1, e1, r1, w1⟩ := read_Deed g1
    simp [cells_int, cells_Deed] at e0 e1
    exact ⟨⟨a0, a1⟩, s1, by simp [e0, e1], r1, ⟨wf_of w0, w1⟩⟩
theorem cells_NoteS : Try.prog.cellsOf 83 = 1 := by kernel_rfl
theorem read_NoteS (h : DataW.trod enc Try.prog w 0 spare held fuel 83 cs = some x) : ∃ (s : Sl) (l : List (Note)), cs = [.slice s.a s.n s.c] ∧ RdL noteD w w.heap.size s.v l ∧ wfL wfNote l := by
  haveI : Inhabited ((Note) × noteD.S) := ⟨(⟨0, ⟨0, 0, ⟨0, 0, 0, 0, []⟩, 0, 0, 0, 0⟩⟩, ⟨none, 0, 0⟩)⟩
  obtain ⟨v, rs, h1, h2, h3, h4⟩ := read_slice noteD.enc (fun z : (Note) × Sl => noteD.rd w w.heap.size z.1 z.2 ∧ wfNote z.1) Try.underlying83 (by kernel_rfl) (by decide) (fun n cs' y hy => by
    obtain ⟨p0, s0, e0, h0, k0⟩ := read_Note hy
    exact ⟨(p0, s0), e0, h0, k0⟩) h
  obtain ⟨A, c, hv, hc, hr⟩ := id h2
  refine ⟨⟨A, rs.length, c⟩, rs.map (·.1), by rw [h1, hv], ⟨rs, rfl, by rw [hv] at h2; exact h2, fun r hr => (h3 r hr).1⟩, by rw [List.length_map]; simpa [maxLen] using h4, fun z hz => ?_⟩
  obtain ⟨r, hr, rfl⟩ := List.mem_map.1 hz
  exact (h3 r hr).2
theorem cells_Seg : Try.prog.cellsOf 124 = 2 := by kernel_rfl
theorem read_Seg (h : DataW.trod enc Try.prog w 0 spare held fuel 124 cs = some x) : ∃ (p : Seg) (s : Sl), cs = [.int .i64 p.fr, .slice s.a s.n s.c] ∧ segD.rd w w.heap.size p s ∧ wfSeg p := by
  obtain ⟨xs, n', _, _, hlen, hxl, hf⟩ := DataW.trod_struct Try.underlying124 h
  rw [cells_Seg] at hlen
  have g0 := hf 0 _ rfl
  have g1 := hf 1 _ rfl
  match xs, hxl, cs, hlen with
  | [y0, y1], _, [c0, c1], _ =>
    obtain ⟨a0, e0, _, w0⟩ := DataW.trod_int Try.underlying3 g0
    obtain ⟨s1, a1, e1, r1, w1⟩ := read_NoteS g1
    simp [cells_int, cells_NoteS] at e0 e1
    exact ⟨⟨a0, a1⟩, s1, by simp [e0, e1], r1, ⟨wf_of w0, w1⟩⟩
theorem cells_SegS : Try.prog.cellsOf 22 = 1 := by kernel_rfl
theorem read_SegS (h : DataW.trod enc Try.prog w 0 spare held fuel 22 cs = some x) : ∃ (s : Sl) (l : List (Seg)), cs = [.slice s.a s.n s.c] ∧ RdL segD w w.heap.size s.v l ∧ wfL wfSeg l := by
  haveI : Inhabited ((Seg) × segD.S) := ⟨(⟨0, []⟩, ⟨none, 0, 0⟩)⟩
  obtain ⟨v, rs, h1, h2, h3, h4⟩ := read_slice segD.enc (fun z : (Seg) × Sl => segD.rd w w.heap.size z.1 z.2 ∧ wfSeg z.1) Try.underlying22 (by kernel_rfl) (by decide) (fun n cs' y hy => by
    obtain ⟨p0, s0, e0, h0, k0⟩ := read_Seg hy
    exact ⟨(p0, s0), e0, h0, k0⟩) h
  obtain ⟨A, c, hv, hc, hr⟩ := id h2
  refine ⟨⟨A, rs.length, c⟩, rs.map (·.1), by rw [h1, hv], ⟨rs, rfl, by rw [hv] at h2; exact h2, fun r hr => (h3 r hr).1⟩, by rw [List.length_map]; simpa [maxLen] using h4, fun z hz => ?_⟩
  obtain ⟨r, hr, rfl⟩ := List.mem_map.1 hz
  exact (h3 r hr).2
theorem cells_Reply : Try.prog.cellsOf 151 = 4 := by kernel_rfl
theorem read_Reply (h : DataW.trod enc Try.prog w 0 spare held fuel 151 cs = some x) : ∃ (p : Reply) (_s : Unit), cs = [.int .i64 p.code, .int .i64 p.run, .int .i64 p.task, .int .i64 p.try_] ∧ replyD.rd w w.heap.size p _s ∧ wfReply p := by
  obtain ⟨xs, n', _, _, hlen, hxl, hf⟩ := DataW.trod_struct Try.underlying151 h
  rw [cells_Reply] at hlen
  have g0 := hf 0 _ rfl
  have g1 := hf 1 _ rfl
  have g2 := hf 2 _ rfl
  have g3 := hf 3 _ rfl
  match xs, hxl, cs, hlen with
  | [y0, y1, y2, y3], _, [c0, c1, c2, c3], _ =>
    obtain ⟨a0, e0, _, w0⟩ := DataW.trod_int Try.underlying3 g0
    obtain ⟨a1, e1, _, w1⟩ := DataW.trod_int Try.underlying3 g1
    obtain ⟨a2, e2, _, w2⟩ := DataW.trod_int Try.underlying3 g2
    obtain ⟨a3, e3, _, w3⟩ := DataW.trod_int Try.underlying3 g3
    simp [cells_int] at e0 e1 e2 e3
    exact ⟨⟨a0, a1, a2, a3⟩, (), by simp [e0, e1, e2, e3], trivial, ⟨wf_of w0, wf_of w1, wf_of w2, wf_of w3⟩⟩
theorem cells_ReplyS : Try.prog.cellsOf 42 = 1 := by kernel_rfl
theorem read_ReplyS (h : DataW.trod enc Try.prog w 0 spare held fuel 42 cs = some x) : ∃ (s : Sl) (l : List (Reply)), cs = [.slice s.a s.n s.c] ∧ RdL replyD w w.heap.size s.v l ∧ wfL wfReply l := by
  haveI : Inhabited ((Reply) × replyD.S) := ⟨(⟨0, 0, 0, 0⟩, ())⟩
  obtain ⟨v, rs, h1, h2, h3, h4⟩ := read_slice replyD.enc (fun z : (Reply) × Unit => replyD.rd w w.heap.size z.1 z.2 ∧ wfReply z.1) Try.underlying42 (by kernel_rfl) (by decide) (fun n cs' y hy => by
    obtain ⟨p0, s0, e0, h0, k0⟩ := read_Reply hy
    exact ⟨(p0, s0), e0, h0, k0⟩) h
  obtain ⟨A, c, hv, hc, hr⟩ := id h2
  refine ⟨⟨A, rs.length, c⟩, rs.map (·.1), by rw [h1, hv], ⟨rs, rfl, by rw [hv] at h2; exact h2, fun r hr => (h3 r hr).1⟩, by rw [List.length_map]; simpa [maxLen] using h4, fun z hz => ?_⟩
  obtain ⟨r, hr, rfl⟩ := List.mem_map.1 hz
  exact (h3 r hr).2
theorem cells_Entry : Try.prog.cellsOf 230 = 4 := by kernel_rfl
theorem read_Entry (h : DataW.trod enc Try.prog w 0 spare held fuel 230 cs = some x) : ∃ (p : Entry) (_s : Unit), cs = [.int .i64 p.prio, .int .i64 p.seq, .int .i64 p.run, .int .i64 p.task] ∧ entryD.rd w w.heap.size p _s ∧ wfEntry p := by
  obtain ⟨xs, n', _, _, hlen, hxl, hf⟩ := DataW.trod_struct Try.underlying230 h
  rw [cells_Entry] at hlen
  have g0 := hf 0 _ rfl
  have g1 := hf 1 _ rfl
  have g2 := hf 2 _ rfl
  have g3 := hf 3 _ rfl
  match xs, hxl, cs, hlen with
  | [y0, y1, y2, y3], _, [c0, c1, c2, c3], _ =>
    obtain ⟨a0, e0, _, w0⟩ := DataW.trod_int Try.underlying3 g0
    obtain ⟨a1, e1, _, w1⟩ := DataW.trod_int Try.underlying3 g1
    obtain ⟨a2, e2, _, w2⟩ := DataW.trod_int Try.underlying3 g2
    obtain ⟨a3, e3, _, w3⟩ := DataW.trod_int Try.underlying3 g3
    simp [cells_int] at e0 e1 e2 e3
    exact ⟨⟨a0, a1, a2, a3⟩, (), by simp [e0, e1, e2, e3], trivial, ⟨wf_of w0, wf_of w1, wf_of w2, wf_of w3⟩⟩
theorem cells_EntryS : Try.prog.cellsOf 192 = 1 := by kernel_rfl
theorem read_EntryS (h : DataW.trod enc Try.prog w 0 spare held fuel 192 cs = some x) : ∃ (s : Sl) (l : List (Entry)), cs = [.slice s.a s.n s.c] ∧ RdL entryD w w.heap.size s.v l ∧ wfL wfEntry l := by
  haveI : Inhabited ((Entry) × entryD.S) := ⟨(⟨0, 0, 0, 0⟩, ())⟩
  obtain ⟨v, rs, h1, h2, h3, h4⟩ := read_slice entryD.enc (fun z : (Entry) × Unit => entryD.rd w w.heap.size z.1 z.2 ∧ wfEntry z.1) Try.underlying192 (by kernel_rfl) (by decide) (fun n cs' y hy => by
    obtain ⟨p0, s0, e0, h0, k0⟩ := read_Entry hy
    exact ⟨(p0, s0), e0, h0, k0⟩) h
  obtain ⟨A, c, hv, hc, hr⟩ := id h2
  refine ⟨⟨A, rs.length, c⟩, rs.map (·.1), by rw [h1, hv], ⟨rs, rfl, by rw [hv] at h2; exact h2, fun r hr => (h3 r hr).1⟩, by rw [List.length_map]; simpa [maxLen] using h4, fun z hz => ?_⟩
  obtain ⟨r, hr, rfl⟩ := List.mem_map.1 hz
  exact (h3 r hr).2
theorem cells_Task : Try.prog.cellsOf 254 = 4 := by kernel_rfl
theorem read_Task (h : DataW.trod enc Try.prog w 0 spare held fuel 254 cs = some x) : ∃ (p : Task) (_s : Unit), cs = [.int .i64 p.state, .int .i64 p.need, .int .i64 p.try_, .int .i64 p.until_] ∧ taskD.rd w w.heap.size p _s ∧ wfTask p := by
  obtain ⟨xs, n', _, _, hlen, hxl, hf⟩ := DataW.trod_struct Try.underlying254 h
  rw [cells_Task] at hlen
  have g0 := hf 0 _ rfl
  have g1 := hf 1 _ rfl
  have g2 := hf 2 _ rfl
  have g3 := hf 3 _ rfl
  match xs, hxl, cs, hlen with
  | [y0, y1, y2, y3], _, [c0, c1, c2, c3], _ =>
    obtain ⟨a0, e0, _, w0⟩ := DataW.trod_int Try.underlying3 g0
    obtain ⟨a1, e1, _, w1⟩ := DataW.trod_int Try.underlying3 g1
    obtain ⟨a2, e2, _, w2⟩ := DataW.trod_int Try.underlying3 g2
    obtain ⟨a3, e3, _, w3⟩ := DataW.trod_int Try.underlying3 g3
    simp [cells_int] at e0 e1 e2 e3
    exact ⟨⟨a0, a1, a2, a3⟩, (), by simp [e0, e1, e2, e3], trivial, ⟨wf_of w0, wf_of w1, wf_of w2, wf_of w3⟩⟩
theorem cells_TaskS : Try.prog.cellsOf 194 = 1 := by kernel_rfl
theorem read_TaskS (h : DataW.trod enc Try.prog w 0 spare held fuel 194 cs = some x) : ∃ (s : Sl) (l : List (Task)), cs = [.slice s.a s.n s.c] ∧ RdL taskD w w.heap.size s.v l ∧ wfL wfTask l := by
  haveI : Inhabited ((Task) × taskD.S) := ⟨(⟨0, 0, 0, 0⟩, ())⟩
  obtain ⟨v, rs, h1, h2, h3, h4⟩ := read_slice taskD.enc (fun z : (Task) × Unit => taskD.rd w w.heap.size z.1 z.2 ∧ wfTask z.1) Try.underlying194 (by kernel_rfl) (by decide) (fun n cs' y hy => by
    obtain ⟨p0, s0, e0, h0, k0⟩ := read_Task hy
    exact ⟨(p0, s0), e0, h0, k0⟩) h
  obtain ⟨A, c, hv, hc, hr⟩ := id h2
  refine ⟨⟨A, rs.length, c⟩, rs.map (·.1), by rw [h1, hv], ⟨rs, rfl, by rw [hv] at h2; exact h2, fun r hr => (h3 r hr).1⟩, by rw [List.length_map]; simpa [maxLen] using h4, fun z hz => ?_⟩
  obtain ⟨r, hr, rfl⟩ := List.mem_map.1 hz
  exact (h3 r hr).2
theorem cells_Run : Try.prog.cellsOf 196 = 8 := by kernel_rfl
theorem read_Run (h : DataW.trod enc Try.prog w 0 spare held fuel 196 cs = some x) : ∃ (p : Run) (s : Sl × Sl), cs = [.int .i64 p.id, .int .i64 p.plan.prio, .int .i64 p.plan.most, .int .i64 p.plan.wait, .int .i64 p.plan.tasks, .slice s.1.a s.1.n s.1.c, .int .i64 p.state, .slice s.2.a s.2.n s.2.c] ∧ runD.rd w w.heap.size p s ∧ wfRun p := by
  obtain ⟨xs, n', _, _, hlen, hxl, hf⟩ := DataW.trod_struct Try.underlying196 h
  rw [cells_Run] at hlen
  have g0 := hf 0 _ rfl
  have g1 := hf 1 _ rfl
  have g2 := hf 2 _ rfl
  have g3 := hf 3 _ rfl
  match xs, hxl, cs, hlen with
  | [y0, y1, y2, y3], _, [c0, c1, c2, c3, c4, c5, c6, c7], _ =>
    obtain ⟨a0, e0, _, w0⟩ := DataW.trod_int Try.underlying3 g0
    obtain ⟨a1, s1, e1, r1, w1⟩ := read_Plan g1
    obtain ⟨a2, e2, _, w2⟩ := DataW.trod_int Try.underlying3 g2
    obtain ⟨s3, a3, e3, r3, w3⟩ := read_TaskS g3
    simp [cells_int, cells_Plan, cells_TaskS] at e0 e1 e2 e3
    exact ⟨⟨a0, a1, a2, a3⟩, (s1, s3), by simp [e0, e1, e2, e3], ⟨r1, r3⟩, ⟨wf_of w0, w1, wf_of w2, w3⟩⟩
theorem cells_RunS : Try.prog.cellsOf 51 = 1 := by kernel_rfl
theorem read_RunS (h : DataW.trod enc Try.prog w 0 spare held fuel 51 cs = some x) : ∃ (s : Sl) (l : List (Run)), cs = [.slice s.a s.n s.c] ∧ RdL runD w w.heap.size s.v l ∧ wfL wfRun l := by
  haveI : Inhabited ((Run) × runD.S) := ⟨(⟨0, ⟨0, 0, 0, 0, []⟩, 0, []⟩, (⟨none, 0, 0⟩, ⟨none, 0, 0⟩))⟩
  obtain ⟨v, rs, h1, h2, h3, h4⟩ := read_slice runD.enc (fun z : (Run) × Sl × Sl => runD.rd w w.heap.size z.1 z.2 ∧ wfRun z.1) Try.underlying51 (by kernel_rfl) (by decide) (fun n cs' y hy => by
    obtain ⟨p0, s0, e0, h0, k0⟩ := read_Run hy
    exact ⟨(p0, s0), e0, h0, k0⟩) h
  obtain ⟨A, c, hv, hc, hr⟩ := id h2
  refine ⟨⟨A, rs.length, c⟩, rs.map (·.1), by rw [h1, hv], ⟨rs, rfl, by rw [hv] at h2; exact h2, fun r hr => (h3 r hr).1⟩, by rw [List.length_map]; simpa [maxLen] using h4, fun z hz => ?_⟩
  obtain ⟨r, hr, rfl⟩ := List.mem_map.1 hz
  exact (h3 r hr).2
theorem cells_EntrySS : Try.prog.cellsOf 50 = 1 := by kernel_rfl
theorem read_EntrySS (h : DataW.trod enc Try.prog w 0 spare held fuel 50 cs = some x) : ∃ (s : Sl) (l : List (List Entry)), cs = [.slice s.a s.n s.c] ∧ RdL (Dt.list entryD) w w.heap.size s.v l ∧ wfL wfEntryS l := by
  haveI : Inhabited ((List Entry) × (Dt.list entryD).S) := ⟨([], ⟨none, 0, 0⟩)⟩
  obtain ⟨v, rs, h1, h2, h3, h4⟩ := read_slice (Dt.list entryD).enc (fun z : (List Entry) × Sl => (Dt.list entryD).rd w w.heap.size z.1 z.2 ∧ wfEntryS z.1) Try.underlying50 (by kernel_rfl) (by decide) (fun n cs' y hy => by
    obtain ⟨s0, p0, e0, h0, k0⟩ := read_EntryS hy
    exact ⟨(p0, s0), e0, h0, k0⟩) h
  obtain ⟨A, c, hv, hc, hr⟩ := id h2
  refine ⟨⟨A, rs.length, c⟩, rs.map (·.1), by rw [h1, hv], ⟨rs, rfl, by rw [hv] at h2; exact h2, fun r hr => (h3 r hr).1⟩, by rw [List.length_map]; simpa [maxLen] using h4, fun z hz => ?_⟩
  obtain ⟨r, hr, rfl⟩ := List.mem_map.1 hz
  exact (h3 r hr).2
theorem cells_Yard : Try.prog.cellsOf 53 = 4 := by kernel_rfl
theorem read_Yard (h : DataW.trod enc Try.prog w 0 spare held fuel 53 cs = some x) : ∃ (p : Yard) (s : Sl × Sl), cs = [.int .i64 p.now, .int .i64 p.seq, .slice s.1.a s.1.n s.1.c, .slice s.2.a s.2.n s.2.c] ∧ yardD.rd w w.heap.size p s ∧ wfYard p := by
  obtain ⟨xs, n', _, _, hlen, hxl, hf⟩ := DataW.trod_struct Try.underlying53 h
  rw [cells_Yard] at hlen
  have g0 := hf 0 _ rfl
  have g1 := hf 1 _ rfl
  have g2 := hf 2 _ rfl
  have g3 := hf 3 _ rfl
  match xs, hxl, cs, hlen with
  | [y0, y1, y2, y3], _, [c0, c1, c2, c3], _ =>
    obtain ⟨a0, e0, _, w0⟩ := DataW.trod_int Try.underlying3 g0
    obtain ⟨a1, e1, _, w1⟩ := DataW.trod_int Try.underlying3 g1
    obtain ⟨s2, a2, e2, r2, w2⟩ := read_EntrySS g2
    obtain ⟨s3, a3, e3, r3, w3⟩ := read_RunS g3
    simp [cells_int, cells_EntrySS, cells_RunS] at e0 e1 e2 e3
    exact ⟨⟨a0, a1, a2, a3⟩, (s2, s3), by simp [e0, e1, e2, e3], ⟨r2, r3⟩, ⟨wf_of w0, wf_of w1, w2, w3⟩⟩
theorem cells_Memo : Try.prog.cellsOf 207 = 5 := by kernel_rfl
theorem read_Memo (h : DataW.trod enc Try.prog w 0 spare held fuel 207 cs = some x) : ∃ (p : Memo) (_s : Unit), cs = [.int .i64 p.id, .int .i64 p.reply.code, .int .i64 p.reply.run, .int .i64 p.reply.task, .int .i64 p.reply.try_] ∧ memoD.rd w w.heap.size p _s ∧ wfMemo p := by
  obtain ⟨xs, n', _, _, hlen, hxl, hf⟩ := DataW.trod_struct Try.underlying207 h
  rw [cells_Memo] at hlen
  have g0 := hf 0 _ rfl
  have g1 := hf 1 _ rfl
  match xs, hxl, cs, hlen with
  | [y0, y1], _, [c0, c1, c2, c3, c4], _ =>
    obtain ⟨a0, e0, _, w0⟩ := DataW.trod_int Try.underlying3 g0
    obtain ⟨a1, s1, e1, r1, w1⟩ := read_Reply g1
    simp [cells_int, cells_Reply] at e0 e1
    exact ⟨⟨a0, a1⟩, (), by simp [e0, e1], trivial, ⟨wf_of w0, w1⟩⟩
theorem cells_MemoS : Try.prog.cellsOf 68 = 1 := by kernel_rfl
theorem read_MemoS (h : DataW.trod enc Try.prog w 0 spare held fuel 68 cs = some x) : ∃ (s : Sl) (l : List (Memo)), cs = [.slice s.a s.n s.c] ∧ RdL memoD w w.heap.size s.v l ∧ wfL wfMemo l := by
  haveI : Inhabited ((Memo) × memoD.S) := ⟨(⟨0, ⟨0, 0, 0, 0⟩⟩, ())⟩
  obtain ⟨v, rs, h1, h2, h3, h4⟩ := read_slice memoD.enc (fun z : (Memo) × Unit => memoD.rd w w.heap.size z.1 z.2 ∧ wfMemo z.1) Try.underlying68 (by kernel_rfl) (by decide) (fun n cs' y hy => by
    obtain ⟨p0, s0, e0, h0, k0⟩ := read_Memo hy
    exact ⟨(p0, s0), e0, h0, k0⟩) h
  obtain ⟨A, c, hv, hc, hr⟩ := id h2
  refine ⟨⟨A, rs.length, c⟩, rs.map (·.1), by rw [h1, hv], ⟨rs, rfl, by rw [hv] at h2; exact h2, fun r hr => (h3 r hr).1⟩, by rw [List.length_map]; simpa [maxLen] using h4, fun z hz => ?_⟩
  obtain ⟨r, hr, rfl⟩ := List.mem_map.1 hz
  exact (h3 r hr).2
theorem cells_Desk : Try.prog.cellsOf 70 = 6 := by kernel_rfl
theorem read_Desk (h : DataW.trod enc Try.prog w 0 spare held fuel 70 cs = some x) : ∃ (p : Desk) (s : (Sl × Sl) × Sl), cs = [.int .i64 p.yard.now, .int .i64 p.yard.seq, .slice s.1.1.a s.1.1.n s.1.1.c, .slice s.1.2.a s.1.2.n s.1.2.c, .slice s.2.a s.2.n s.2.c, .int .i64 p.fr] ∧ deskD.rd w w.heap.size p s ∧ wfDesk p := by
  obtain ⟨xs, n', _, _, hlen, hxl, hf⟩ := DataW.trod_struct Try.underlying70 h
  rw [cells_Desk] at hlen
  have g0 := hf 0 _ rfl
  have g1 := hf 1 _ rfl
  have g2 := hf 2 _ rfl
  match xs, hxl, cs, hlen with
  | [y0, y1, y2], _, [c0, c1, c2, c3, c4, c5], _ =>
    obtain ⟨a0, s0, e0, r0, w0⟩ := read_Yard g0
    obtain ⟨s1, a1, e1, r1, w1⟩ := read_MemoS g1
    obtain ⟨a2, e2, _, w2⟩ := DataW.trod_int Try.underlying3 g2
    simp [cells_Yard, cells_MemoS, cells_int] at e0 e1 e2
    exact ⟨⟨a0, a1, a2⟩, (s0, s1), by simp [e0, e1, e2], ⟨r0, r1⟩, ⟨w0, w1, wf_of w2⟩⟩
theorem cells_Follower : Try.prog.cellsOf 94 = 5 := by kernel_rfl
theorem read_Follower (h : DataW.trod enc Try.prog w 0 spare held fuel 94 cs = some x) : ∃ (p : Follower) (s : (Sl × Sl)), cs = [.int .i64 p.yard.now, .int .i64 p.yard.seq, .slice s.1.a s.1.n s.1.c, .slice s.2.a s.2.n s.2.c, .int .i64 p.seq] ∧ followerD.rd w w.heap.size p s ∧ wfFollower p := by
  obtain ⟨xs, n', _, _, hlen, hxl, hf⟩ := DataW.trod_struct Try.underlying94 h
  rw [cells_Follower] at hlen
  have g0 := hf 0 _ rfl
  have g1 := hf 1 _ rfl
  match xs, hxl, cs, hlen with
  | [y0, y1], _, [c0, c1, c2, c3, c4], _ =>
    obtain ⟨a0, s0, e0, r0, w0⟩ := read_Yard g0
    obtain ⟨a1, e1, _, w1⟩ := DataW.trod_int Try.underlying3 g1
    simp [cells_Yard, cells_int] at e0 e1
    exact ⟨⟨a0, a1⟩, s0, by simp [e0, e1], r0, ⟨w0, wf_of w1⟩⟩
end
end Go.Proofs.Ytcapldjhcplfmaa
