/-
  FenceFor of the reference and of the program. Written by program (cs.py).
-/
import Derived.Test.YtcapldjhcplfmaaRt
import Derived.Test.YtcapldjhcplfmaaTFence
namespace Go.Proofs.Ytcapldjhcplfmaa
open Go.RowKit
set_option maxRecDepth 100000
set_option maxHeartbeats 1000000
set_option linter.unusedVariables false
set_option linter.unusedSimpArgs false

def runGet (y : Yard) (k : Int) : Run := y.runs.getD k.toNat ⟨0, ⟨0, 0, 0, 0, []⟩, 0, []⟩
def taskGet (r : Run) (k : Int) : Task := r.tasks.getD k.toNat ⟨0, 0, 0, 0⟩
theorem runGet_get {y : Yard} {k : Nat} (h : k < y.runs.length) : runGet y k = y.runs[k] := by
  unfold runGet
  rw [List.getD_eq_getElem?_getD, Int.toNat_natCast, List.getElem?_eq_getElem h]
  rfl
theorem taskGet_get {r : Run} {k : Nat} (h : k < r.tasks.length) : taskGet r k = r.tasks[k] := by
  unfold taskGet
  rw [List.getD_eq_getElem?_getD, Int.toNat_natCast, List.getElem?_eq_getElem h]
  rfl
/-- the run is there, the task runs -/
def heldB (y : Yard) (id task : Int) : Bool := decide (0 ≤ runAt y id) && inB task 0 ((runGet y (runAt y id)).tasks.length - 1) && decide ((taskGet (runGet y (runAt y id)) task).state = 3)
def fenceFor (y : Yard) (id task : Int) (text : ByteArray) : Fence × Bool := if heldB y id task = true then (⟨id, task, (taskGet (runGet y (runAt y id)) task).try_, text⟩, true) else (⟨0, 0, 0, ⟨#[]⟩⟩, false)

theorem implFenceFor_own (y : Yard) (s : Sl × Sl) (id task : Int) (text : ByteArray) (w : World) (hl : cntYard y ≤ 2000000) (h : yardD.rd w w.heap.size y s) :
    Calls Try.prog 43 #[yardW y s, .int .i64 id, .int .i64 task, .string text] w fun e w' => e = .returned (.tuple #[fenceW (fenceFor y id task text).1 (), .bool (fenceFor y id task text).2]) ∧ Below w.heap.size w w' := by
  have hC0 : ∀ W, Below w.heap.size w W → Calls Try.prog 100 #[yardW y s, .int .i64 id] W fun e w' => e = .returned (.int .i64 (runAt y id)) ∧ Below W.heap.size W w' := fun W hW => implRunAt_own y s id W hl (yardD.rd_more (yardD.rd_below h hW) hW.size)
  obtain ⟨s1, ⟨A, n, c⟩⟩ := s
  have h1 : RdL runD w w.heap.size (Sl.v ⟨A, n, c⟩) y.runs := h.2
  obtain ⟨A', c', hv, -⟩ := h1.form
  simp only [Sl.v, Value.slice.injEq] at hv
  obtain ⟨rfl, rfl, rfl⟩ := hv
  have hll : y.runs.length ≤ 2000000 := Nat.le_trans (cntL_len cntRun _) (by unfold cntYard at hl; omega)
  have hcc : ∀ k (hk : k < y.runs.length), y.runs[k].tasks.length ≤ 2000000 := fun k hk => by
    have h1 := cntL_mem (cnt := cntRun) (List.getElem_mem hk)
    have h2 := cntL_len cntTask y.runs[k].tasks
    have h3 : cntL cntTask y.runs[k].tasks ≤ cntRun y.runs[k] := Nat.le_add_left _ _
    unfold cntYard at hl
    omega
  have D0 := DBox.new 62 [.int .i64 y.now, .int .i64 y.seq, .slice (s1, (⟨A, y.runs.length, c⟩ : Sl)).1.a (s1, (⟨A, y.runs.length, c⟩ : Sl)).1.n (s1, (⟨A, y.runs.length, c⟩ : Sl)).1.c, .slice (s1, (⟨A, y.runs.length, c⟩ : Sl)).2.a (s1, (⟨A, y.runs.length, c⟩ : Sl)).2.n (s1, (⟨A, y.runs.length, c⟩ : Sl)).2.c] w rfl
  have D := D0.below ((Below.refl _ _).alloc (Nat.le_refl _) (.cells #[.int .i64 0, .int .i64 0, .int .i64 0, .string ⟨#[]⟩] 56))
  have Z := DBox.new 56 [.int .i64 0, .int .i64 0, .int .i64 0, .string ⟨#[]⟩] (w.alloc (.cells #[.int .i64 y.now, .int .i64 y.seq, .slice (s1, (⟨A, y.runs.length, c⟩ : Sl)).1.a (s1, (⟨A, y.runs.length, c⟩ : Sl)).1.n (s1, (⟨A, y.runs.length, c⟩ : Sl)).1.c, .slice (s1, (⟨A, y.runs.length, c⟩ : Sl)).2.a (s1, (⟨A, y.runs.length, c⟩ : Sl)).2.n (s1, (⟨A, y.runs.length, c⟩ : Sl)).2.c] 62)) (b := w.heap.size + 1) (by simp)
  have B1 : Below w.heap.size w ((w.alloc (.cells #[.int .i64 y.now, .int .i64 y.seq, .slice (s1, (⟨A, y.runs.length, c⟩ : Sl)).1.a (s1, (⟨A, y.runs.length, c⟩ : Sl)).1.n (s1, (⟨A, y.runs.length, c⟩ : Sl)).1.c, .slice (s1, (⟨A, y.runs.length, c⟩ : Sl)).2.a (s1, (⟨A, y.runs.length, c⟩ : Sl)).2.n (s1, (⟨A, y.runs.length, c⟩ : Sl)).2.c] 62)).alloc (.cells #[.int .i64 0, .int .i64 0, .int .i64 0, .string ⟨#[]⟩] 56)) := by repeat (first | exact Below.refl _ _ | refine Below.alloc ?_ (by simp <;> omega) _)
  clear D0 hl
  rcases runAt_range y id with hra | ⟨k, hk, hra⟩
  · have H := Lib.hid (show fenceFor y id task text = (⟨0, 0, 0, ⟨#[]⟩⟩, false) by simp [fenceFor, heldB, hra])
    have hC := hC0
    rw [hra] at hC
    clear hra hC0
    go_enter Try.func43, Try.ntmps43
    go_wp2_with fail
    generalize ((w.alloc (.cells #[.int .i64 y.now, .int .i64 y.seq, .slice (s1, (⟨A, y.runs.length, c⟩ : Sl)).1.a (s1, (⟨A, y.runs.length, c⟩ : Sl)).1.n (s1, (⟨A, y.runs.length, c⟩ : Sl)).1.c, .slice (s1, (⟨A, y.runs.length, c⟩ : Sl)).2.a (s1, (⟨A, y.runs.length, c⟩ : Sl)).2.n (s1, (⟨A, y.runs.length, c⟩ : Sl)).2.c] 62)).alloc (.cells #[.int .i64 0, .int .i64 0, .int .i64 0, .string ⟨#[]⟩] 56)) = W at *
    refine (hC _ B1).mono ?_
    rintro e w2 ⟨rfl, b2⟩
    have D2 := D.below b2
    have Z2 := Z.below b2
    have B2 := bnext B1 b2
    have k3 : w2.cell? ⟨w.heap.size, 3, none⟩ = some (.slice A y.runs.length c) := D2.cell 3 _ rfl
    have z0 : w2.cell? ⟨w.heap.size + 1, 0, none⟩ = some (.int .i64 0) := Z2.cell 0 _ rfl
    have z1 : w2.cell? ⟨w.heap.size + 1, 1, none⟩ = some (.int .i64 0) := Z2.cell 1 _ rfl
    have z2 : w2.cell? ⟨w.heap.size + 1, 2, none⟩ = some (.int .i64 0) := Z2.cell 2 _ rfl
    have z3 : w2.cell? ⟨w.heap.size + 1, 3, none⟩ = some (.string ⟨#[]⟩) := Z2.cell 3 _ rfl
    have zf := Z2.free
    have zl := Z2.lt
    go_wp2_with (go_at_call 83; refine (within_any _ _ _ _).mono ?_; rintro e w3 ⟨rfl, rfl⟩)
    refine bodyPost_ret (v := .tuple #[fenceW (fenceFor y id task text).1 (), .bool (fenceFor y id task text).2]) ?_ rfl ⟨rfl, ?_⟩
    · rw [H.out]
      simp [fenceW, results, Try.results43, go_sem, z0, z1, z2, z3]
    · repeat (first | (with_reducible exact B2) | refine Below.setCell ?_ (by simp <;> omega) _)
  · have hrg := Lib.hid (show runGet y (runAt y id) = y.runs[k] by rw [hra]; exact runGet_get hk)
    have hge : (0 : Int) ≤ (k : Int) := by omega
    have Hra := Lib.hid hra
    have hC := hC0
    rw [hra] at hC
    clear hra hC0
    cases t1 : inB task 0 (y.runs[k].tasks.length - 1)
    · have H := Lib.hid (show fenceFor y id task text = (⟨0, 0, 0, ⟨#[]⟩⟩, false) by unfold fenceFor heldB; rw [hrg.out, t1]; simp)
      go_enter Try.func43, Try.ntmps43
      go_wp2_with fail
      generalize ((w.alloc (.cells #[.int .i64 y.now, .int .i64 y.seq, .slice (s1, (⟨A, y.runs.length, c⟩ : Sl)).1.a (s1, (⟨A, y.runs.length, c⟩ : Sl)).1.n (s1, (⟨A, y.runs.length, c⟩ : Sl)).1.c, .slice (s1, (⟨A, y.runs.length, c⟩ : Sl)).2.a (s1, (⟨A, y.runs.length, c⟩ : Sl)).2.n (s1, (⟨A, y.runs.length, c⟩ : Sl)).2.c] 62)).alloc (.cells #[.int .i64 0, .int .i64 0, .int .i64 0, .string ⟨#[]⟩] 56)) = W at *
      refine (hC _ B1).mono ?_
      rintro e w2 ⟨rfl, b2⟩
      have D2 := D.below b2
      have Z2 := Z.below b2
      have B2 := bnext B1 b2
      have k3 : w2.cell? ⟨w.heap.size, 3, none⟩ = some (.slice A y.runs.length c) := D2.cell 3 _ rfl
      have z0 : w2.cell? ⟨w.heap.size + 1, 0, none⟩ = some (.int .i64 0) := Z2.cell 0 _ rfl
      have z1 : w2.cell? ⟨w.heap.size + 1, 1, none⟩ = some (.int .i64 0) := Z2.cell 1 _ rfl
      have z2 : w2.cell? ⟨w.heap.size + 1, 2, none⟩ = some (.int .i64 0) := Z2.cell 2 _ rfl
      have z3 : w2.cell? ⟨w.heap.size + 1, 3, none⟩ = some (.string ⟨#[]⟩) := Z2.cell 3 _ rfl
      have zf := Z2.free
      have zl := Z2.lt
      obtain ⟨b, o, ⟨s3, ⟨A4, n4, c4⟩⟩, rfl, hbb, hr, c0, c1, c2, c3, c4', c5, c6, c7⟩ := (h1.below B2).run hk
      have hrt : RdL taskD w2 w.heap.size (Sl.v ⟨A4, n4, c4⟩) y.runs[k].tasks := hr.2
      obtain ⟨_, _, hv4, -⟩ := hrt.form
      simp only [Sl.v, Value.slice.injEq] at hv4
      obtain ⟨rfl, rfl, rfl⟩ := hv4
      have hkI : (k : Int) < (y.runs.length : Int) := by omega
      have hct := hcc k hk
      go_wp2_with (go_at_call 83; refine (within_any _ _ _ _).mono ?_; rintro e w3 ⟨rfl, rfl⟩)
      refine bodyPost_ret (v := .tuple #[fenceW (fenceFor y id task text).1 (), .bool (fenceFor y id task text).2]) ?_ rfl ⟨rfl, ?_⟩
      · rw [H.out]
        simp [fenceW, results, Try.results43, go_sem, z0, z1, z2, z3]
      · repeat (first | (with_reducible exact B2) | refine Below.setCell ?_ (by simp <;> omega) _)
    · obtain ⟨tn, htn⟩ : ∃ tn : Nat, task = (tn : Int) := ⟨task.toNat, by simp only [inB, Bool.and_eq_true, decide_eq_true_eq] at t1; omega⟩
      subst htn
      have htl : tn < y.runs[k].tasks.length := by simp only [inB, Bool.and_eq_true, decide_eq_true_eq] at t1; omega
      have htI : (tn : Int) < (y.runs[k].tasks.length : Int) := by omega
      have htg := Lib.hid (show taskGet (runGet y (runAt y id)) (tn : Int) = y.runs[k].tasks[tn] by rw [hrg.out]; exact taskGet_get htl)
      have hps := Lib.hid (show decide (0 ≤ runAt y id) = true by rw [Hra.out]; simp)
      by_cases hst : y.runs[k].tasks[tn].state = 3
      · have t2 : (y.runs[k].tasks[tn].state != 3) = false := by simp [hst]
        have H := Lib.hid (show fenceFor y id (tn : Int) text = (⟨id, tn, y.runs[k].tasks[tn].try_, text⟩, true) by unfold fenceFor heldB; rw [htg.out, hrg.out, t1, hps.out, hst]; simp)
        clear hst
        go_enter Try.func43, Try.ntmps43
        go_wp2_with fail
        generalize ((w.alloc (.cells #[.int .i64 y.now, .int .i64 y.seq, .slice (s1, (⟨A, y.runs.length, c⟩ : Sl)).1.a (s1, (⟨A, y.runs.length, c⟩ : Sl)).1.n (s1, (⟨A, y.runs.length, c⟩ : Sl)).1.c, .slice (s1, (⟨A, y.runs.length, c⟩ : Sl)).2.a (s1, (⟨A, y.runs.length, c⟩ : Sl)).2.n (s1, (⟨A, y.runs.length, c⟩ : Sl)).2.c] 62)).alloc (.cells #[.int .i64 0, .int .i64 0, .int .i64 0, .string ⟨#[]⟩] 56)) = W at *
        refine (hC _ B1).mono ?_
        rintro e w2 ⟨rfl, b2⟩
        have D2 := D.below b2
        have Z2 := Z.below b2
        have B2 := bnext B1 b2
        have k3 : w2.cell? ⟨w.heap.size, 3, none⟩ = some (.slice A y.runs.length c) := D2.cell 3 _ rfl
        have z0 : w2.cell? ⟨w.heap.size + 1, 0, none⟩ = some (.int .i64 0) := Z2.cell 0 _ rfl
        have z1 : w2.cell? ⟨w.heap.size + 1, 1, none⟩ = some (.int .i64 0) := Z2.cell 1 _ rfl
        have z2 : w2.cell? ⟨w.heap.size + 1, 2, none⟩ = some (.int .i64 0) := Z2.cell 2 _ rfl
        have z3 : w2.cell? ⟨w.heap.size + 1, 3, none⟩ = some (.string ⟨#[]⟩) := Z2.cell 3 _ rfl
        have zf := Z2.free
        have zl := Z2.lt
        obtain ⟨b, o, ⟨s3, ⟨A4, n4, c4⟩⟩, rfl, hbb, hr, c0, c1, c2, c3, c4', c5, c6, c7⟩ := (h1.below B2).run hk
        have hrt : RdL taskD w2 w.heap.size (Sl.v ⟨A4, n4, c4⟩) y.runs[k].tasks := hr.2
        obtain ⟨_, _, hv4, -⟩ := hrt.form
        simp only [Sl.v, Value.slice.injEq] at hv4
        obtain ⟨rfl, rfl, rfl⟩ := hv4
        have hkI : (k : Int) < (y.runs.length : Int) := by omega
        have hct := hcc k hk
        obtain ⟨b5, o5, s5, rfl, hbb5, _, d0, d1, d2, d3⟩ := hrt.task htl
        go_wp2_with (go_at_call 83; refine (within_any _ _ _ _).mono ?_; rintro e w3 ⟨rfl, rfl⟩)
        refine bodyPost_ret (v := .tuple #[fenceW (fenceFor y id (tn : Int) text).1 (), .bool (fenceFor y id (tn : Int) text).2]) ?_ rfl ⟨rfl, ?_⟩
        · rw [H.out]
          simp [fenceW, results, Try.results43, go_sem, z0, z1, z2, z3]
        · repeat (first | (with_reducible exact B2) | refine Below.setCell ?_ (by simp <;> omega) _)
      · have t2 : (y.runs[k].tasks[tn].state != 3) = true := by rw [bne_iff_ne]; exact hst
        have H := Lib.hid (show fenceFor y id (tn : Int) text = (⟨0, 0, 0, ⟨#[]⟩⟩, false) by unfold fenceFor heldB; rw [htg.out]; simp [hst])
        clear hst
        go_enter Try.func43, Try.ntmps43
        go_wp2_with fail
        generalize ((w.alloc (.cells #[.int .i64 y.now, .int .i64 y.seq, .slice (s1, (⟨A, y.runs.length, c⟩ : Sl)).1.a (s1, (⟨A, y.runs.length, c⟩ : Sl)).1.n (s1, (⟨A, y.runs.length, c⟩ : Sl)).1.c, .slice (s1, (⟨A, y.runs.length, c⟩ : Sl)).2.a (s1, (⟨A, y.runs.length, c⟩ : Sl)).2.n (s1, (⟨A, y.runs.length, c⟩ : Sl)).2.c] 62)).alloc (.cells #[.int .i64 0, .int .i64 0, .int .i64 0, .string ⟨#[]⟩] 56)) = W at *
        refine (hC _ B1).mono ?_
        rintro e w2 ⟨rfl, b2⟩
        have D2 := D.below b2
        have Z2 := Z.below b2
        have B2 := bnext B1 b2
        have k3 : w2.cell? ⟨w.heap.size, 3, none⟩ = some (.slice A y.runs.length c) := D2.cell 3 _ rfl
        have z0 : w2.cell? ⟨w.heap.size + 1, 0, none⟩ = some (.int .i64 0) := Z2.cell 0 _ rfl
        have z1 : w2.cell? ⟨w.heap.size + 1, 1, none⟩ = some (.int .i64 0) := Z2.cell 1 _ rfl
        have z2 : w2.cell? ⟨w.heap.size + 1, 2, none⟩ = some (.int .i64 0) := Z2.cell 2 _ rfl
        have z3 : w2.cell? ⟨w.heap.size + 1, 3, none⟩ = some (.string ⟨#[]⟩) := Z2.cell 3 _ rfl
        have zf := Z2.free
        have zl := Z2.lt
        obtain ⟨b, o, ⟨s3, ⟨A4, n4, c4⟩⟩, rfl, hbb, hr, c0, c1, c2, c3, c4', c5, c6, c7⟩ := (h1.below B2).run hk
        have hrt : RdL taskD w2 w.heap.size (Sl.v ⟨A4, n4, c4⟩) y.runs[k].tasks := hr.2
        obtain ⟨_, _, hv4, -⟩ := hrt.form
        simp only [Sl.v, Value.slice.injEq] at hv4
        obtain ⟨rfl, rfl, rfl⟩ := hv4
        have hkI : (k : Int) < (y.runs.length : Int) := by omega
        have hct := hcc k hk
        obtain ⟨b5, o5, s5, rfl, hbb5, _, d0, d1, d2, d3⟩ := hrt.task htl
        go_wp2_with (go_at_call 83; refine (within_any _ _ _ _).mono ?_; rintro e w3 ⟨rfl, rfl⟩)
        refine bodyPost_ret (v := .tuple #[fenceW (fenceFor y id (tn : Int) text).1 (), .bool (fenceFor y id (tn : Int) text).2]) ?_ rfl ⟨rfl, ?_⟩
        · rw [H.out]
          simp [fenceW, results, Try.results43, go_sem, z0, z1, z2, z3]
        · repeat (first | (with_reducible exact B2) | refine Below.setCell ?_ (by simp <;> omega) _)

theorem specFenceFor_own (y : Yard) (s : Sl × Sl) (id task : Int) (text : ByteArray) (w : World) (hl : cntYard y ≤ 2000000) (h : yardD.rd w w.heap.size y s) :
    Calls Try.prog 41 #[yardW y s, .int .i64 id, .int .i64 task, .string text] w fun e w' => e = .returned (.tuple #[fenceW (fenceFor y id task text).1 (), .bool (fenceFor y id task text).2]) ∧ Below w.heap.size w w' := by
  have hC0 : ∀ W, Below w.heap.size w W → Calls Try.prog 97 #[yardW y s, .int .i64 id] W fun e w' => e = .returned (.int .i64 (runAt y id)) ∧ Below W.heap.size W w' := fun W hW => specRunAt_own y s id W hl (yardD.rd_more (yardD.rd_below h hW) hW.size)
  obtain ⟨s1, ⟨A, n, c⟩⟩ := s
  have h1 : RdL runD w w.heap.size (Sl.v ⟨A, n, c⟩) y.runs := h.2
  obtain ⟨A', c', hv, -⟩ := h1.form
  simp only [Sl.v, Value.slice.injEq] at hv
  obtain ⟨rfl, rfl, rfl⟩ := hv
  have hll : y.runs.length ≤ 2000000 := Nat.le_trans (cntL_len cntRun _) (by unfold cntYard at hl; omega)
  have hcc : ∀ k (hk : k < y.runs.length), y.runs[k].tasks.length ≤ 2000000 := fun k hk => by
    have h1 := cntL_mem (cnt := cntRun) (List.getElem_mem hk)
    have h2 := cntL_len cntTask y.runs[k].tasks
    have h3 : cntL cntTask y.runs[k].tasks ≤ cntRun y.runs[k] := Nat.le_add_left _ _
    unfold cntYard at hl
    omega
  have D0 := DBox.new 62 [.int .i64 y.now, .int .i64 y.seq, .slice (s1, (⟨A, y.runs.length, c⟩ : Sl)).1.a (s1, (⟨A, y.runs.length, c⟩ : Sl)).1.n (s1, (⟨A, y.runs.length, c⟩ : Sl)).1.c, .slice (s1, (⟨A, y.runs.length, c⟩ : Sl)).2.a (s1, (⟨A, y.runs.length, c⟩ : Sl)).2.n (s1, (⟨A, y.runs.length, c⟩ : Sl)).2.c] w rfl
  have D := D0.below ((Below.refl _ _).alloc (Nat.le_refl _) (.cells #[.int .i64 0, .int .i64 0, .int .i64 0, .string ⟨#[]⟩] 56))
  have Z := DBox.new 56 [.int .i64 0, .int .i64 0, .int .i64 0, .string ⟨#[]⟩] (w.alloc (.cells #[.int .i64 y.now, .int .i64 y.seq, .slice (s1, (⟨A, y.runs.length, c⟩ : Sl)).1.a (s1, (⟨A, y.runs.length, c⟩ : Sl)).1.n (s1, (⟨A, y.runs.length, c⟩ : Sl)).1.c, .slice (s1, (⟨A, y.runs.length, c⟩ : Sl)).2.a (s1, (⟨A, y.runs.length, c⟩ : Sl)).2.n (s1, (⟨A, y.runs.length, c⟩ : Sl)).2.c] 62)) (b := w.heap.size + 1) (by simp)
  have B1 : Below w.heap.size w ((w.alloc (.cells #[.int .i64 y.now, .int .i64 y.seq, .slice (s1, (⟨A, y.runs.length, c⟩ : Sl)).1.a (s1, (⟨A, y.runs.length, c⟩ : Sl)).1.n (s1, (⟨A, y.runs.length, c⟩ : Sl)).1.c, .slice (s1, (⟨A, y.runs.length, c⟩ : Sl)).2.a (s1, (⟨A, y.runs.length, c⟩ : Sl)).2.n (s1, (⟨A, y.runs.length, c⟩ : Sl)).2.c] 62)).alloc (.cells #[.int .i64 0, .int .i64 0, .int .i64 0, .string ⟨#[]⟩] 56)) := by repeat (first | exact Below.refl _ _ | refine Below.alloc ?_ (by simp <;> omega) _)
  clear D0 hl
  rcases runAt_range y id with hra | ⟨k, hk, hra⟩
  · have H := Lib.hid (show fenceFor y id task text = (⟨0, 0, 0, ⟨#[]⟩⟩, false) by simp [fenceFor, heldB, hra])
    have hC := hC0
    rw [hra] at hC
    clear hra hC0
    go_enter Try.func41, Try.ntmps41
    go_wp2_with fail
    generalize ((w.alloc (.cells #[.int .i64 y.now, .int .i64 y.seq, .slice (s1, (⟨A, y.runs.length, c⟩ : Sl)).1.a (s1, (⟨A, y.runs.length, c⟩ : Sl)).1.n (s1, (⟨A, y.runs.length, c⟩ : Sl)).1.c, .slice (s1, (⟨A, y.runs.length, c⟩ : Sl)).2.a (s1, (⟨A, y.runs.length, c⟩ : Sl)).2.n (s1, (⟨A, y.runs.length, c⟩ : Sl)).2.c] 62)).alloc (.cells #[.int .i64 0, .int .i64 0, .int .i64 0, .string ⟨#[]⟩] 56)) = W at *
    refine (hC _ B1).mono ?_
    rintro e w2 ⟨rfl, b2⟩
    have D2 := D.below b2
    have Z2 := Z.below b2
    have B2 := bnext B1 b2
    have k3 : w2.cell? ⟨w.heap.size, 3, none⟩ = some (.slice A y.runs.length c) := D2.cell 3 _ rfl
    have z0 : w2.cell? ⟨w.heap.size + 1, 0, none⟩ = some (.int .i64 0) := Z2.cell 0 _ rfl
    have z1 : w2.cell? ⟨w.heap.size + 1, 1, none⟩ = some (.int .i64 0) := Z2.cell 1 _ rfl
    have z2 : w2.cell? ⟨w.heap.size + 1, 2, none⟩ = some (.int .i64 0) := Z2.cell 2 _ rfl
    have z3 : w2.cell? ⟨w.heap.size + 1, 3, none⟩ = some (.string ⟨#[]⟩) := Z2.cell 3 _ rfl
    have zf := Z2.free
    have zl := Z2.lt
    go_wp2_with (go_at_call 81; refine (l01In_any _ _ _ _).mono ?_; rintro e w3 ⟨rfl, rfl⟩)
    refine bodyPost_ret (v := .tuple #[fenceW (fenceFor y id task text).1 (), .bool (fenceFor y id task text).2]) ?_ rfl ⟨rfl, ?_⟩
    · rw [H.out]
      simp [fenceW, results, Try.results41, go_sem, z0, z1, z2, z3]
    · repeat (first | (with_reducible exact B2) | refine Below.setCell ?_ (by simp <;> omega) _)
  · have hrg := Lib.hid (show runGet y (runAt y id) = y.runs[k] by rw [hra]; exact runGet_get hk)
    have hge : (0 : Int) ≤ (k : Int) := by omega
    have Hra := Lib.hid hra
    have hC := hC0
    rw [hra] at hC
    clear hra hC0
    cases t1 : inB task 0 (y.runs[k].tasks.length - 1)
    · have H := Lib.hid (show fenceFor y id task text = (⟨0, 0, 0, ⟨#[]⟩⟩, false) by unfold fenceFor heldB; rw [hrg.out, t1]; simp)
      go_enter Try.func41, Try.ntmps41
      go_wp2_with fail
      generalize ((w.alloc (.cells #[.int .i64 y.now, .int .i64 y.seq, .slice (s1, (⟨A, y.runs.length, c⟩ : Sl)).1.a (s1, (⟨A, y.runs.length, c⟩ : Sl)).1.n (s1, (⟨A, y.runs.length, c⟩ : Sl)).1.c, .slice (s1, (⟨A, y.runs.length, c⟩ : Sl)).2.a (s1, (⟨A, y.runs.length, c⟩ : Sl)).2.n (s1, (⟨A, y.runs.length, c⟩ : Sl)).2.c] 62)).alloc (.cells #[.int .i64 0, .int .i64 0, .int .i64 0, .string ⟨#[]⟩] 56)) = W at *
      refine (hC _ B1).mono ?_
      rintro e w2 ⟨rfl, b2⟩
      have D2 := D.below b2
      have Z2 := Z.below b2
      have B2 := bnext B1 b2
      have k3 : w2.cell? ⟨w.heap.size, 3, none⟩ = some (.slice A y.runs.length c) := D2.cell 3 _ rfl
      have z0 : w2.cell? ⟨w.heap.size + 1, 0, none⟩ = some (.int .i64 0) := Z2.cell 0 _ rfl
      have z1 : w2.cell? ⟨w.heap.size + 1, 1, none⟩ = some (.int .i64 0) := Z2.cell 1 _ rfl
      have z2 : w2.cell? ⟨w.heap.size + 1, 2, none⟩ = some (.int .i64 0) := Z2.cell 2 _ rfl
      have z3 : w2.cell? ⟨w.heap.size + 1, 3, none⟩ = some (.string ⟨#[]⟩) := Z2.cell 3 _ rfl
      have zf := Z2.free
      have zl := Z2.lt
      obtain ⟨b, o, ⟨s3, ⟨A4, n4, c4⟩⟩, rfl, hbb, hr, c0, c1, c2, c3, c4', c5, c6, c7⟩ := (h1.below B2).run hk
      have hrt : RdL taskD w2 w.heap.size (Sl.v ⟨A4, n4, c4⟩) y.runs[k].tasks := hr.2
      obtain ⟨_, _, hv4, -⟩ := hrt.form
      simp only [Sl.v, Value.slice.injEq] at hv4
      obtain ⟨rfl, rfl, rfl⟩ := hv4
      have hkI : (k : Int) < (y.runs.length : Int) := by omega
      have hct := hcc k hk
      go_wp2_with (go_at_call 81; refine (l01In_any _ _ _ _).mono ?_; rintro e w3 ⟨rfl, rfl⟩)
      refine bodyPost_ret (v := .tuple #[fenceW (fenceFor y id task text).1 (), .bool (fenceFor y id task text).2]) ?_ rfl ⟨rfl, ?_⟩
      · rw [H.out]
        simp [fenceW, results, Try.results41, go_sem, z0, z1, z2, z3]
      · repeat (first | (with_reducible exact B2) | refine Below.setCell ?_ (by simp <;> omega) _)
    · obtain ⟨tn, htn⟩ : ∃ tn : Nat, task = (tn : Int) := ⟨task.toNat, by simp only [inB, Bool.and_eq_true, decide_eq_true_eq] at t1; omega⟩
      subst htn
      have htl : tn < y.runs[k].tasks.length := by simp only [inB, Bool.and_eq_true, decide_eq_true_eq] at t1; omega
      have htI : (tn : Int) < (y.runs[k].tasks.length : Int) := by omega
      have htg := Lib.hid (show taskGet (runGet y (runAt y id)) (tn : Int) = y.runs[k].tasks[tn] by rw [hrg.out]; exact taskGet_get htl)
      have hps := Lib.hid (show decide (0 ≤ runAt y id) = true by rw [Hra.out]; simp)
      by_cases hst : y.runs[k].tasks[tn].state = 3
      · have t2 : (y.runs[k].tasks[tn].state != 3) = false := by simp [hst]
        have H := Lib.hid (show fenceFor y id (tn : Int) text = (⟨id, tn, y.runs[k].tasks[tn].try_, text⟩, true) by unfold fenceFor heldB; rw [htg.out, hrg.out, t1, hps.out, hst]; simp)
        clear hst
        go_enter Try.func41, Try.ntmps41
        go_wp2_with fail
        generalize ((w.alloc (.cells #[.int .i64 y.now, .int .i64 y.seq, .slice (s1, (⟨A, y.runs.length, c⟩ : Sl)).1.a (s1, (⟨A, y.runs.length, c⟩ : Sl)).1.n (s1, (⟨A, y.runs.length, c⟩ : Sl)).1.c, .slice (s1, (⟨A, y.runs.length, c⟩ : Sl)).2.a (s1, (⟨A, y.runs.length, c⟩ : Sl)).2.n (s1, (⟨A, y.runs.length, c⟩ : Sl)).2.c] 62)).alloc (.cells #[.int .i64 0, .int .i64 0, .int .i64 0, .string ⟨#[]⟩] 56)) = W at *
        refine (hC _ B1).mono ?_
        rintro e w2 ⟨rfl, b2⟩
        have D2 := D.below b2
        have Z2 := Z.below b2
        have B2 := bnext B1 b2
        have k3 : w2.cell? ⟨w.heap.size, 3, none⟩ = some (.slice A y.runs.length c) := D2.cell 3 _ rfl
        have z0 : w2.cell? ⟨w.heap.size + 1, 0, none⟩ = some (.int .i64 0) := Z2.cell 0 _ rfl
        have z1 : w2.cell? ⟨w.heap.size + 1, 1, none⟩ = some (.int .i64 0) := Z2.cell 1 _ rfl
        have z2 : w2.cell? ⟨w.heap.size + 1, 2, none⟩ = some (.int .i64 0) := Z2.cell 2 _ rfl
        have z3 : w2.cell? ⟨w.heap.size + 1, 3, none⟩ = some (.string ⟨#[]⟩) := Z2.cell 3 _ rfl
        have zf := Z2.free
        have zl := Z2.lt
        obtain ⟨b, o, ⟨s3, ⟨A4, n4, c4⟩⟩, rfl, hbb, hr, c0, c1, c2, c3, c4', c5, c6, c7⟩ := (h1.below B2).run hk
        have hrt : RdL taskD w2 w.heap.size (Sl.v ⟨A4, n4, c4⟩) y.runs[k].tasks := hr.2
        obtain ⟨_, _, hv4, -⟩ := hrt.form
        simp only [Sl.v, Value.slice.injEq] at hv4
        obtain ⟨rfl, rfl, rfl⟩ := hv4
        have hkI : (k : Int) < (y.runs.length : Int) := by omega
        have hct := hcc k hk
        obtain ⟨b5, o5, s5, rfl, hbb5, _, d0, d1, d2, d3⟩ := hrt.task htl
        go_wp2_with (go_at_call 81; refine (l01In_any _ _ _ _).mono ?_; rintro e w3 ⟨rfl, rfl⟩)
        refine bodyPost_ret (v := .tuple #[fenceW (fenceFor y id (tn : Int) text).1 (), .bool (fenceFor y id (tn : Int) text).2]) ?_ rfl ⟨rfl, ?_⟩
        · rw [H.out]
          simp [fenceW, results, Try.results41, go_sem, z0, z1, z2, z3]
        · repeat (first | (with_reducible exact B2) | refine Below.setCell ?_ (by simp <;> omega) _)
      · have t2 : (y.runs[k].tasks[tn].state != 3) = true := by rw [bne_iff_ne]; exact hst
        have H := Lib.hid (show fenceFor y id (tn : Int) text = (⟨0, 0, 0, ⟨#[]⟩⟩, false) by unfold fenceFor heldB; rw [htg.out]; simp [hst])
        clear hst
        go_enter Try.func41, Try.ntmps41
        go_wp2_with fail
        generalize ((w.alloc (.cells #[.int .i64 y.now, .int .i64 y.seq, .slice (s1, (⟨A, y.runs.length, c⟩ : Sl)).1.a (s1, (⟨A, y.runs.length, c⟩ : Sl)).1.n (s1, (⟨A, y.runs.length, c⟩ : Sl)).1.c, .slice (s1, (⟨A, y.runs.length, c⟩ : Sl)).2.a (s1, (⟨A, y.runs.length, c⟩ : Sl)).2.n (s1, (⟨A, y.runs.length, c⟩ : Sl)).2.c] 62)).alloc (.cells #[.int .i64 0, .int .i64 0, .int .i64 0, .string ⟨#[]⟩] 56)) = W at *
        refine (hC _ B1).mono ?_
        rintro e w2 ⟨rfl, b2⟩
        have D2 := D.below b2
        have Z2 := Z.below b2
        have B2 := bnext B1 b2
        have k3 : w2.cell? ⟨w.heap.size, 3, none⟩ = some (.slice A y.runs.length c) := D2.cell 3 _ rfl
        have z0 : w2.cell? ⟨w.heap.size + 1, 0, none⟩ = some (.int .i64 0) := Z2.cell 0 _ rfl
        have z1 : w2.cell? ⟨w.heap.size + 1, 1, none⟩ = some (.int .i64 0) := Z2.cell 1 _ rfl
        have z2 : w2.cell? ⟨w.heap.size + 1, 2, none⟩ = some (.int .i64 0) := Z2.cell 2 _ rfl
        have z3 : w2.cell? ⟨w.heap.size + 1, 3, none⟩ = some (.string ⟨#[]⟩) := Z2.cell 3 _ rfl
        have zf := Z2.free
        have zl := Z2.lt
        obtain ⟨b, o, ⟨s3, ⟨A4, n4, c4⟩⟩, rfl, hbb, hr, c0, c1, c2, c3, c4', c5, c6, c7⟩ := (h1.below B2).run hk
        have hrt : RdL taskD w2 w.heap.size (Sl.v ⟨A4, n4, c4⟩) y.runs[k].tasks := hr.2
        obtain ⟨_, _, hv4, -⟩ := hrt.form
        simp only [Sl.v, Value.slice.injEq] at hv4
        obtain ⟨rfl, rfl, rfl⟩ := hv4
        have hkI : (k : Int) < (y.runs.length : Int) := by omega
        have hct := hcc k hk
        obtain ⟨b5, o5, s5, rfl, hbb5, _, d0, d1, d2, d3⟩ := hrt.task htl
        go_wp2_with (go_at_call 81; refine (l01In_any _ _ _ _).mono ?_; rintro e w3 ⟨rfl, rfl⟩)
        refine bodyPost_ret (v := .tuple #[fenceW (fenceFor y id (tn : Int) text).1 (), .bool (fenceFor y id (tn : Int) text).2]) ?_ rfl ⟨rfl, ?_⟩
        · rw [H.out]
          simp [fenceW, results, Try.results41, go_sem, z0, z1, z2, z3]
        · repeat (first | (with_reducible exact B2) | refine Below.setCell ?_ (by simp <;> omega) _)
end Go.Proofs.Ytcapldjhcplfmaa
