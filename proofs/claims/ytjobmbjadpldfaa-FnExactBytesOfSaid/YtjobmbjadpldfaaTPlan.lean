/-
  Data of the type Plan: how it lies in memory, and the walks of the laws' helpers on it. Written by program (deep.py).
-/
import Derived.Test.YtjobmbjadpldfaaTEdge
namespace Go.Proofs.Ytjobmbjadpldfaa
open Go.RowKit
set_option maxRecDepth 100000
set_option maxHeartbeats 1000000
set_option linter.unusedVariables false
set_option linter.unusedSimpArgs false

@[go_sem] abbrev planW (x : Plan) (s : Sl) : Value := .agg #[.int .i64 x.prio, .int .i64 x.most, .int .i64 x.wait, .int .i64 x.tasks, .slice s.a s.n s.c]
abbrev planD : Dt Plan := Dt.via (Dt.list edgeD) (·.edges) (fun q => [.int .i64 q.1.prio, .int .i64 q.1.most, .int .i64 q.1.wait, .int .i64 q.1.tasks, .slice q.2.a q.2.n q.2.c]) 5 (fun _ => rfl) (fun q u hu => by simp at hu; rcases hu with rfl | rfl | rfl | rfl | rfl <;> rfl)
/-- all lengths in it together -/
def cntPlan (x : Plan) : Nat := cntL cntEdge x.edges
/-- ints are int64, lengths are what a machine holds -/
def wfPlan (x : Plan) : Prop := Wf x.prio ∧ Wf x.most ∧ Wf x.wait ∧ Wf x.tasks ∧ wfL wfEdge x.edges
def numPlan (x : Plan) : Nat := 4 + numL numEdge x.edges
/-- with the marks from k on -/
def mkPlan (k : Int) (x : Plan) : Plan := ⟨k, k + 1, k + 1 + 1, k + 1 + 1 + 1, mkL mkEdge numEdge (k + 1 + 1 + 1 + 1) x.edges⟩
theorem numPlan_le (x : Plan) : numPlan x ≤ 13 * (cntPlan x + 1) := by
  have h0 := numL_le (num := numEdge) (cnt := cntEdge) (K := 13) numEdge_le x.edges
  unfold numPlan cntPlan
  omega

theorem toPlan_own (x : Plan) (s : Sl) (w : World) (hl : cntPlan x ≤ 2000000) (h : planD.rd w w.heap.size x s) :
    Calls Try.prog 59 #[planW x s] w (OwnPost planD planW x w) := by
  have hbx : ∀ W, Below w.heap.size w W → planD.rd W W.heap.size x s := fun W hW => planD.rd_more (planD.rd_below h hW) hW.size
  go_enter Try.func59, Try.ntmps59
  go_wp2_with fail
  refine (toEdgeS_own x.edges s _ (by unfold cntPlan at hl; omega) ((hbx _ (by repeat (first | exact Below.refl _ _ | refine Below.alloc ?_ (by simp <;> omega) _))))).mono ?_
  rintro e w0 ⟨s0, F0, rfl, o0, n0, hb0⟩
  obtain ⟨q0, p0⟩ := bcell hb0
  have z0 := hb0.size
  simp only [World.size_alloc, World.size_setCell] at z0 n0
  have B0 : Below w.heap.size w w0 := bnext (by repeat (first | exact Below.refl _ _ | refine Below.alloc ?_ (by simp <;> omega) _)) hb0
  go_wp2
  refine bodyPost_ret (v := planW x s0) ?_ rfl ?_
  · simp [planW, results, Try.results59, go_sem, q0]
  · refine ⟨s0, F0, rfl, ?_, ?_, ?_⟩
    · repeat (first | (with_reducible exact o0) | refine Dt.ow_set _ ?_ (by intro hm; have := n0 _ hm; (try simp only [World.size_alloc, World.size_setCell] at this); omega) _)
    · intro b hb
      have := n0 b hb
      omega
    · repeat (first | (with_reducible exact B0) | (with_reducible exact Below.refl _ _) | refine Below.setCell ?_ (by simp <;> omega) _ | refine Below.alloc ?_ (by simp <;> omega) _)

theorem eqPlan_own (x y : Plan) (s r : Sl) (w : World) (hl : cntPlan x ≤ 2000000) (hl' : cntPlan y ≤ 2000000) (h : planD.rd w w.heap.size x s) (h' : planD.rd w w.heap.size y r) :
    Calls Try.prog 65 #[planW x s, planW y r] w fun e w' => e = .returned (.bool (decide (x = y))) ∧ Below w.heap.size w w' := by
  have hbx : ∀ W, Below w.heap.size w W → planD.rd W W.heap.size x s := fun W hW => planD.rd_more (planD.rd_below h hW) hW.size
  have hby : ∀ W, Below w.heap.size w W → planD.rd W W.heap.size y r := fun W hW => planD.rd_more (planD.rd_below h' hW) hW.size
  by_cases h0 : x.prio = y.prio
  case neg =>
    have t0 : (x.prio != y.prio) = true := by rw [bne_iff_ne]; exact h0
    have H := Lib.hid (show decide (x = y) = false by simp only [decide_eq_false_iff_not]; intro e; exact h0 (by rw [e]))
    clear h0
    go_enter Try.func65, Try.ntmps65
    go_wp2
    go_ret
    exact ⟨ret_bool (by first | exact H.out.symm | rfl), by repeat (first | exact Below.refl _ _ | refine Below.alloc ?_ (by simp <;> omega) _)⟩
  have t0 : (x.prio != y.prio) = false := by simp [h0]
  have H0 := Lib.hid h0
  clear h0
  by_cases h1 : x.most = y.most
  case neg =>
    have t1 : (x.most != y.most) = true := by rw [bne_iff_ne]; exact h1
    have H := Lib.hid (show decide (x = y) = false by simp only [decide_eq_false_iff_not]; intro e; exact h1 (by rw [e]))
    clear h1
    go_enter Try.func65, Try.ntmps65
    go_wp2
    go_ret
    exact ⟨ret_bool (by first | exact H.out.symm | rfl), by repeat (first | exact Below.refl _ _ | refine Below.alloc ?_ (by simp <;> omega) _)⟩
  have t1 : (x.most != y.most) = false := by simp [h1]
  have H1 := Lib.hid h1
  clear h1
  by_cases h2 : x.wait = y.wait
  case neg =>
    have t2 : (x.wait != y.wait) = true := by rw [bne_iff_ne]; exact h2
    have H := Lib.hid (show decide (x = y) = false by simp only [decide_eq_false_iff_not]; intro e; exact h2 (by rw [e]))
    clear h2
    go_enter Try.func65, Try.ntmps65
    go_wp2
    go_ret
    exact ⟨ret_bool (by first | exact H.out.symm | rfl), by repeat (first | exact Below.refl _ _ | refine Below.alloc ?_ (by simp <;> omega) _)⟩
  have t2 : (x.wait != y.wait) = false := by simp [h2]
  have H2 := Lib.hid h2
  clear h2
  by_cases h3 : x.tasks = y.tasks
  case neg =>
    have t3 : (x.tasks != y.tasks) = true := by rw [bne_iff_ne]; exact h3
    have H := Lib.hid (show decide (x = y) = false by simp only [decide_eq_false_iff_not]; intro e; exact h3 (by rw [e]))
    clear h3
    go_enter Try.func65, Try.ntmps65
    go_wp2
    go_ret
    exact ⟨ret_bool (by first | exact H.out.symm | rfl), by repeat (first | exact Below.refl _ _ | refine Below.alloc ?_ (by simp <;> omega) _)⟩
  have t3 : (x.tasks != y.tasks) = false := by simp [h3]
  have H3 := Lib.hid h3
  clear h3
  go_enter Try.func65, Try.ntmps65
  go_wp2_with fail
  refine (eqEdgeS_own x.edges y.edges s r _ (by unfold cntPlan at hl; omega) (by unfold cntPlan at hl'; omega) ((hbx _ (by repeat (first | exact Below.refl _ _ | refine Below.alloc ?_ (by simp <;> omega) _)))) ((hby _ (by repeat (first | exact Below.refl _ _ | refine Below.alloc ?_ (by simp <;> omega) _))))).mono ?_
  rintro e w4 ⟨rfl, hb4⟩
  have B4 : Below w.heap.size w w4 := bnext (by repeat (first | exact Below.refl _ _ | refine Below.alloc ?_ (by simp <;> omega) _)) hb4
  obtain ⟨q4, p4⟩ := bcell hb4
  by_cases h4 : x.edges = y.edges
  case neg =>
    have H := Lib.hid (show decide (x = y) = false by simp only [decide_eq_false_iff_not]; intro e; exact h4 (by rw [e]))
    rw [decide_eq_false h4]
    clear h4
    go_wp2
    go_ret
    exact ⟨ret_bool (by first | exact H.out.symm | rfl), by exact B4⟩
  rw [decide_eq_true h4]
  have H4 := Lib.hid h4
  clear h4
  have H := Lib.hid (show decide (x = y) = true by
    simp only [decide_eq_true_eq]
    have hh := And.intro H0.out (And.intro H1.out (And.intro H2.out (And.intro H3.out H4.out)))
    obtain ⟨e0, e1, e2, e3, e4⟩ := hh
    cases x
    cases y
    simp only at e0 e1 e2 e3 e4
    subst e0 e1 e2 e3 e4
    rfl)
  go_wp2
  go_ret
  exact ⟨ret_bool (by first | exact H.out.symm | rfl), by exact B4⟩

theorem szPlan_own (x : Plan) (s : Sl) (left : Int) (w : World) (h0 : 0 ≤ left) (h1 : left ≤ 2000000) (hw : wfPlan x) (h : planD.rd w w.heap.size x s) :
    Calls Try.prog 54 #[planW x s, .int .i64 left] w (SzPost left (cntPlan x) w) := by
  have hbx : ∀ W, Below w.heap.size w W → planD.rd W W.heap.size x s := fun W hW => planD.rd_more (planD.rd_below h hW) hW.size
  go_enter Try.func54, Try.ntmps54
  go_wp2_with fail
  refine (szEdgeS_own x.edges s left _ (by omega) (by omega) hw.2.2.2.2 ((hbx _ (by repeat (first | exact Below.refl _ _ | refine Below.alloc ?_ (by simp <;> omega) _))))).mono ?_
  rintro e w0 ⟨r0, rfl, hr0, hb0⟩
  have B0 : Below w.heap.size w w0 := bnext (by repeat (first | exact Below.refl _ _ | refine Below.alloc ?_ (by simp <;> omega) _)) hb0
  obtain ⟨q0, p0⟩ := bcell hb0
  rcases hr0 with rfl | ⟨y0, z0⟩
  · go_wp2
    go_ret
    exact ⟨-1, rfl, .inl rfl, B0⟩
  go_wp2
  go_ret
  exact ⟨_, rfl, .inr ⟨by omega, by unfold cntPlan; omega⟩, B0⟩
end Go.Proofs.Ytjobmbjadpldfaa
