/-
  The state that a run has to have: the reference's walk; runs that are right: the program's. Entries whose task stands ready: the program's walk and the reference's. Runs that stand in a yard as they should: the program's walk and the reference's. Copies of shelves and of runs, of the program and of the reference. Written by program (yx.py).
-/
import Derived.Test.YtjobmbjadpldfaaGreatZHeard4
section
namespace Go.Proofs.YtjobmbjadpldfaaGreat
open Go.RowKit
set_option maxRecDepth 100000
set_option maxHeartbeats 2000000
set_option linter.unusedVariables false
set_option linter.unusedSimpArgs false

def stI (c1 c2 c3 c4 c5 c6 n : Int) : Int := if c4 = n then 2 else if c5 = 1 ∧ c1 + c2 + c3 = 0 then 3 else if c5 = 0 ∧ 0 < c6 ∧ c1 + c2 + c3 = 0 then 4 else if c5 = 0 ∧ c6 = 0 then 1 else 0
theorem stL_int (l : List Task) : stL l = stI (cntS l 1 : Nat) (cntS l 2 : Nat) (cntS l 3 : Nat) (cntS l 4 : Nat) (cntS l 5 : Nat) (cntS l 6 : Nat) (l.length : Nat) := by
  unfold stL stI restOf
  generalize cntS l 1 = a
  generalize cntS l 2 = b
  generalize cntS l 3 = c
  generalize cntS l 4 = d
  generalize cntS l 5 = e
  generalize cntS l 6 = f
  repeat' split
  all_goals first | rfl | (exfalso; omega)
theorem cntS_step {l : List Task} {k : Nat} (hk : k < l.length) {s : Int} : ((cntS (l.take (k + 1)) s : Nat) : Int) = (cntS (l.take k) s : Nat) + (if l[k].state = s then 1 else 0) := by
  by_cases h : l[k].state = s
  · rw [cntS_yes hk h, if_pos h]; rfl
  · rw [cntS_no hk h, if_neg h]; simp

theorem specState_any (r : Run) (s : Sl × Sl) (w : World) (hl : r.tasks.length ≤ 2000000) (hst : ∀ x ∈ r.tasks, 1 ≤ x.state ∧ x.state ≤ 6) (h : runD.rd w w.heap.size r s) :
    Calls Tryz.prog 82 #[runW r s] w fun e w' => e = .returned (.int .i64 (stL r.tasks)) ∧ Below w.heap.size w w' := by
  obtain ⟨⟨A1, n1, c1⟩, ⟨A2, n2, c2⟩⟩ := s
  obtain rfl : n2 = r.tasks.length := RdL.at1 (s := ⟨A2, n2, c2⟩) h.2
  have h2 : RdL taskD w w.heap.size (.slice A2 r.tasks.length c2) r.tasks := h.2
  have HS := Lib.hid (stL_int r.tasks)
  have HT := Lib.hid hst
  clear h hst
  have X := (DBox.new 84 [.int .i64 r.id, .int .i64 r.plan.prio, .int .i64 r.plan.most, .int .i64 r.plan.wait, .int .i64 r.plan.tasks, .slice A1 n1 c1, .int .i64 r.state, .slice A2 r.tasks.length c2] w (b := w.heap.size) rfl).below ((Below.refl _ _).alloc (Nat.le_refl _) (.cells #[.int .i64 0, .int .i64 0, .int .i64 0, .int .i64 0, .int .i64 0, .int .i64 0, .int .i64 0] 3))
  have E := DBox.new 3 [.int .i64 0, .int .i64 0, .int .i64 0, .int .i64 0, .int .i64 0, .int .i64 0, .int .i64 0] (w.alloc (.cells #[.int .i64 r.id, .int .i64 r.plan.prio, .int .i64 r.plan.most, .int .i64 r.plan.wait, .int .i64 r.plan.tasks, .slice A1 n1 c1, .int .i64 r.state, .slice A2 r.tasks.length c2] 84)) (b := w.heap.size + 1) (by simp)
  have B0 : Below w.heap.size w ((w.alloc (.cells #[.int .i64 r.id, .int .i64 r.plan.prio, .int .i64 r.plan.most, .int .i64 r.plan.wait, .int .i64 r.plan.tasks, .slice A1 n1 c1, .int .i64 r.state, .slice A2 r.tasks.length c2] 84)).alloc (.cells #[.int .i64 0, .int .i64 0, .int .i64 0, .int .i64 0, .int .i64 0, .int .i64 0, .int .i64 0] 3)) := by repeat (first | exact Below.refl _ _ | refine Below.alloc ?_ (by simp <;> omega) _)
  go_enter Tryz.func82, Tryz.ntmps82
  go_wp2
  generalize ((w.alloc (.cells #[.int .i64 r.id, .int .i64 r.plan.prio, .int .i64 r.plan.most, .int .i64 r.plan.wait, .int .i64 r.plan.tasks, .slice A1 n1 c1, .int .i64 r.state, .slice A2 r.tasks.length c2] 84)).alloc (.cells #[.int .i64 0, .int .i64 0, .int .i64 0, .int .i64 0, .int .i64 0, .int .i64 0, .int .i64 0] 3)) = W at *
  go_loopw [4] (fun i wr => ∃ k : Nat, k ≤ r.tasks.length ∧ i = .int .i64 k ∧ DBox w.heap.size [.int .i64 r.id, .int .i64 r.plan.prio, .int .i64 r.plan.most, .int .i64 r.plan.wait, .int .i64 r.plan.tasks, .slice A1 n1 c1, .int .i64 r.state, .slice A2 r.tasks.length c2] wr ∧ DBox (w.heap.size + 1) [.int .i64 0, .int .i64 (cntS (r.tasks.take k) 1 : Nat), .int .i64 (cntS (r.tasks.take k) 2 : Nat), .int .i64 (cntS (r.tasks.take k) 3 : Nat), .int .i64 (cntS (r.tasks.take k) 4 : Nat), .int .i64 (cntS (r.tasks.take k) 5 : Nat), .int .i64 (cntS (r.tasks.take k) 6 : Nat)] wr ∧ Below w.heap.size w wr) (fun i _ => r.tasks.length - (intOf i).toNat)
  case atStart => exact ⟨0, Nat.zero_le _, rfl, X, E, B0⟩
  case round =>
    clear X E B0
    obtain ⟨k, hk, rfl, X, E, hb⟩ := hrel
    have X_0 := X.cell 0 _ rfl
    have X_1 := X.cell 1 _ rfl
    have X_2 := X.cell 2 _ rfl
    have X_3 := X.cell 3 _ rfl
    have X_4 := X.cell 4 _ rfl
    have X_5 := X.cell 5 _ rfl
    have X_6 := X.cell 6 _ rfl
    have X_7 := X.cell 7 _ rfl
    have X_l := X.lt
    have E_0 := E.cell 0 _ rfl
    have E_1 := E.cell 1 _ rfl
    have E_2 := E.cell 2 _ rfl
    have E_3 := E.cell 3 _ rfl
    have E_4 := E.cell 4 _ rfl
    have E_5 := E.cell 5 _ rfl
    have E_6 := E.cell 6 _ rfl
    have E_l := E.lt
    have Ef := E.free
    have L1 := cntS_le (r.tasks.take k) 1
    have L2 := cntS_le (r.tasks.take k) 2
    have L3 := cntS_le (r.tasks.take k) 3
    have L4 := cntS_le (r.tasks.take k) 4
    have L5 := cntS_le (r.tasks.take k) 5
    have L6 := cntS_le (r.tasks.take k) 6
    rw [List.length_take] at L1 L2 L3 L4 L5 L6
    by_cases hlt : k < r.tasks.length
    · have hltI : (k : Int) < (r.tasks.length : Int) := by omega
      obtain ⟨b, o, _, rfl, hbb, _, d0, d1, d2, d3⟩ := (h2.below hb).task hlt
      have hs := hb.size
      have S1 := Lib.hid (cntS_step (s := 1) hlt)
      have S2 := Lib.hid (cntS_step (s := 2) hlt)
      have S3 := Lib.hid (cntS_step (s := 3) hlt)
      have S4 := Lib.hid (cntS_step (s := 4) hlt)
      have S5 := Lib.hid (cntS_step (s := 5) hlt)
      have S6 := Lib.hid (cntS_step (s := 6) hlt)
      have hst := HT.out _ (List.getElem_mem hlt)
      generalize r.tasks[k].state = st at *
      have S := (show st = 1 ∨ st = 2 ∨ st = 3 ∨ st = 4 ∨ st = 5 ∨ st = 6 by omega)
      clear hst
      rcases S with rfl | rfl | rfl | rfl | rfl | rfl
      · go_wp2
        have E2 := E.set 1 (by simp) (.int .i64 ((cntS (r.tasks.take k) 1 : Nat) + 1))
        refine ⟨⟨k + 1, by omega, by go_num, X.setOther (by simp) _, ?_, Below.setCell hb (by simp) _⟩, by simp [intOf]; omega⟩
        rw [S1.out, S2.out, S3.out, S4.out, S5.out, S6.out]
        simpa using E2
      · go_wp2
        have E2 := E.set 2 (by simp) (.int .i64 ((cntS (r.tasks.take k) 2 : Nat) + 1))
        refine ⟨⟨k + 1, by omega, by go_num, X.setOther (by simp) _, ?_, Below.setCell hb (by simp) _⟩, by simp [intOf]; omega⟩
        rw [S1.out, S2.out, S3.out, S4.out, S5.out, S6.out]
        simpa using E2
      · go_wp2
        have E2 := E.set 3 (by simp) (.int .i64 ((cntS (r.tasks.take k) 3 : Nat) + 1))
        refine ⟨⟨k + 1, by omega, by go_num, X.setOther (by simp) _, ?_, Below.setCell hb (by simp) _⟩, by simp [intOf]; omega⟩
        rw [S1.out, S2.out, S3.out, S4.out, S5.out, S6.out]
        simpa using E2
      · go_wp2
        have E2 := E.set 4 (by simp) (.int .i64 ((cntS (r.tasks.take k) 4 : Nat) + 1))
        refine ⟨⟨k + 1, by omega, by go_num, X.setOther (by simp) _, ?_, Below.setCell hb (by simp) _⟩, by simp [intOf]; omega⟩
        rw [S1.out, S2.out, S3.out, S4.out, S5.out, S6.out]
        simpa using E2
      · go_wp2
        have E2 := E.set 5 (by simp) (.int .i64 ((cntS (r.tasks.take k) 5 : Nat) + 1))
        refine ⟨⟨k + 1, by omega, by go_num, X.setOther (by simp) _, ?_, Below.setCell hb (by simp) _⟩, by simp [intOf]; omega⟩
        rw [S1.out, S2.out, S3.out, S4.out, S5.out, S6.out]
        simpa using E2
      · go_wp2
        have E2 := E.set 6 (by simp) (.int .i64 ((cntS (r.tasks.take k) 6 : Nat) + 1))
        refine ⟨⟨k + 1, by omega, by go_num, X.setOther (by simp) _, ?_, Below.setCell hb (by simp) _⟩, by simp [intOf]; omega⟩
        rw [S1.out, S2.out, S3.out, S4.out, S5.out, S6.out]
        simpa using E2
    · have hltI : ¬ (k : Int) < (r.tasks.length : Int) := by omega
      have hk' : k = r.tasks.length := by omega
      subst hk'
      rw [List.take_length] at *
      generalize hc1 : ((cntS r.tasks 1 : Nat) : Int) = c1' at *
      generalize hc2 : ((cntS r.tasks 2 : Nat) : Int) = c2' at *
      generalize hc3 : ((cntS r.tasks 3 : Nat) : Int) = c3' at *
      generalize hc4 : ((cntS r.tasks 4 : Nat) : Int) = c4' at *
      generalize hc5 : ((cntS r.tasks 5 : Nat) : Int) = c5' at *
      generalize hc6 : ((cntS r.tasks 6 : Nat) : Int) = c6' at *
      have m1 : 0 ≤ c1' ∧ c1' ≤ 2000000 := by omega
      have m2 : 0 ≤ c2' ∧ c2' ≤ 2000000 := by omega
      have m3 : 0 ≤ c3' ∧ c3' ≤ 2000000 := by omega
      have m4 : 0 ≤ c4' := by omega
      have m5 : 0 ≤ c5' := by omega
      have m6 : 0 ≤ c6' := by omega
      clear hc1 hc2 hc3 hc4 hc5 hc6 L1 L2 L3 L4 L5 L6
      have w1' : IntKind.i64.wrap (c1' + c2') = c1' + c2' := IntWalk.i64_in _ (by omega)
      have w2' : IntKind.i64.wrap (c1' + c2' + c3') = c1' + c2' + c3' := IntWalk.i64_in _ (by omega)
      have hlc := later_cell wr
      by_cases q1 : c4' = (r.tasks.length : Int)
      · have H := Lib.hid (show stL r.tasks = 2 by rw [HS.out]; unfold stI; rw [if_pos q1])
        have q1' : (c4' == (r.tasks.length : Int)) = true := beq_iff_eq.2 q1
        clear q1
        go_wp2
        go_quiet (fail)
        go_wp2
        go_quiet (fail)
        go_wp2
        go_ret
        exact ⟨ret_int H.out.symm, by first | exact bdrewN hb _ | exact bdrewN (bdrewN hb _) _⟩
      have q1' : (c4' == (r.tasks.length : Int)) = false := beq_eq_false_iff_ne.2 q1
      by_cases q2 : c1' + c2' + c3' = 0
      all_goals
        first
          | (have q2' : (c1' + c2' + c3' == 0) = true := beq_iff_eq.2 q2)
          | (have q2' : (c1' + c2' + c3' == 0) = false := beq_eq_false_iff_ne.2 q2)
        by_cases q3 : c5' = 1
        · have q3' : (c5' == 1) = true := beq_iff_eq.2 q3
          have q4' : (c5' == 0) = false := beq_eq_false_iff_ne.2 (by omega)
          have H := Lib.hid (show stL r.tasks = stI c1' c2' c3' c4' c5' c6' r.tasks.length from HS.out)
          simp only [stI, if_neg q1, q2, q3, and_self, if_true, and_true, true_and, if_false, false_and, and_false, show ¬ ((1 : Int) = 0) by omega] at H
          clear q1 q2 q3
          go_wp2
          go_quiet (fail)
          go_wp2
          go_quiet (fail)
          go_wp2
          go_ret
          exact ⟨ret_int H.out.symm, by first | exact bdrewN hb _ | exact bdrewN (bdrewN hb _) _⟩
        have q3' : (c5' == 1) = false := beq_eq_false_iff_ne.2 q3
        by_cases q4 : c5' = 0
        · have q4' : (c5' == 0) = true := beq_iff_eq.2 q4
          by_cases q5 : c6' = 0
          · have q5' : (c6' == 0) = true := beq_iff_eq.2 q5
            have q6' : decide (0 < c6') = false := decide_eq_false (by omega)
            have H := Lib.hid (show stL r.tasks = stI c1' c2' c3' c4' c5' c6' r.tasks.length from HS.out)
            simp only [stI, if_neg q1, q2, q3, q4, q5, and_self, if_true, and_true, true_and, if_false, false_and, and_false, show ¬ ((0 : Int) = 1) by omega, show ¬ ((0 : Int) < 0) by omega] at H
            clear q1 q2 q3 q4 q5
            go_wp2
            go_quiet (fail)
            go_wp2
            go_quiet (fail)
            go_wp2
            go_ret
            exact ⟨ret_int H.out.symm, by first | exact bdrewN hb _ | exact bdrewN (bdrewN hb _) _⟩
          · have q5' : (c6' == 0) = false := beq_eq_false_iff_ne.2 q5
            have q6 : 0 < c6' := by omega
            have q6' : decide (0 < c6') = true := decide_eq_true q6
            have H := Lib.hid (show stL r.tasks = stI c1' c2' c3' c4' c5' c6' r.tasks.length from HS.out)
            simp only [stI, if_neg q1, q2, q3, q4, q5, q6, and_self, if_true, and_true, true_and, if_false, false_and, and_false, show ¬ ((0 : Int) = 1) by omega] at H
            clear q1 q2 q3 q4 q5 q6
            go_wp2
            go_quiet (fail)
            go_wp2
            go_quiet (fail)
            go_wp2
            go_ret
            exact ⟨ret_int H.out.symm, by first | exact bdrewN hb _ | exact bdrewN (bdrewN hb _) _⟩
        · have q4' : (c5' == 0) = false := beq_eq_false_iff_ne.2 q4
          have H := Lib.hid (show stL r.tasks = stI c1' c2' c3' c4' c5' c6' r.tasks.length from HS.out)
          simp only [stI, if_neg q1, q2, q3, q4, and_self, if_true, and_true, true_and, if_false, false_and, and_false] at H
          clear q1 q2 q3 q4
          go_wp2
          go_quiet (fail)
          go_wp2
          go_quiet (fail)
          go_wp2
          go_ret
          exact ⟨ret_int H.out.symm, by first | exact bdrewN hb _ | exact bdrewN (bdrewN hb _) _⟩
end Go.Proofs.YtjobmbjadpldfaaGreat
end
section
namespace Go.Proofs.YtjobmbjadpldfaaGreat
open Go.RowKit
set_option maxRecDepth 100000
set_option maxHeartbeats 2000000
set_option linter.unusedVariables false
set_option linter.unusedSimpArgs false

theorem fresh_no {y : Yard} {e : Entry} (h : runAt y e.run = -1) : freshB y e = false := tf_false (fun hh => by have := hh.1; omega)
theorem fresh_out {y : Yard} {e : Entry} {k : Nat} (hk : k < y.runs.length) (h : runAt y e.run = k) (hq : inB e.task 0 ((y.runs[k].tasks.length : Int) - 1) = false) : freshB y e = false :=
  tf_false (fun hh => by
    have h2 := hh.2.1
    rw [runK_get hk h] at h2
    have := inB_iff.2 (show 0 ≤ e.task ∧ e.task ≤ (y.runs[k].tasks.length : Int) - 1 by omega)
    rw [hq] at this
    cases this)
theorem fresh_st {y : Yard} {e : Entry} {k t : Nat} (hk : k < y.runs.length) (h : runAt y e.run = k) (ht : t < y.runs[k].tasks.length) (he : e.task = t) : freshB y e = (y.runs[k].tasks[t].state == 2) := by
  unfold freshB
  rw [Bool.eq_iff_iff, tf_iff, beq_iff_eq]
  unfold freshP
  rw [runK_get hk h, he, Int.toNat_natCast, taskAt_get ht]
  constructor
  · intro hh; exact hh.2.2
  · intro hh; exact ⟨by omega, by omega, hh⟩
theorem cnt_run_tasks {y : Yard} {k : Nat} (hl : cntYard y ≤ 2000000) (hk : k < y.runs.length) : y.runs[k].tasks.length ≤ 2000000 := by
  have h1 := cntL_mem (cnt := cntRun) (List.getElem_mem hk)
  have h2 : y.runs[k].tasks.length ≤ cntL cntTask y.runs[k].tasks := cntL_len _ _
  unfold cntYard at hl
  unfold cntRun at h1
  unfold cntRun at hl
  omega
 

theorem implFresh_any (y : Yard) (s : Sl × Sl) (e : Entry) (w : World) (hl : cntYard y ≤ 2000000) (h : yardD.rd w w.heap.size y s) :
    Calls Tryz.prog 92 #[yardW y s, entryW e ()] w fun e' w' => e' = .returned (.bool (freshB y e)) ∧ Below w.heap.size w w' := by
  have HR := Lib.hid (show ∀ W, Below w.heap.size w W → yardD.rd W W.heap.size y s from fun W hW => yardD.rd_more (yardD.rd_below h hW) hW.size)
  obtain ⟨⟨A1, n1, c1⟩, ⟨A2, n2, c2⟩⟩ := s
  obtain rfl : n2 = y.runs.length := RdL.at1 (s := ⟨A2, n2, c2⟩) h.2
  have h2 : RdL runD w w.heap.size (.slice A2 y.runs.length c2) y.runs := h.2
  have hll : y.runs.length ≤ 2000000 := Nat.le_trans (cntL_len cntRun _) (by unfold cntYard at hl; omega)
  obtain ⟨pr, sq, rn, tk⟩ := e
  have X := (DBox.new 34 [.int .i64 y.now, .int .i64 y.seq, .slice A1 n1 c1, .slice A2 y.runs.length c2] w (b := w.heap.size) rfl).below ((Below.refl _ _).alloc (Nat.le_refl _) (.cells #[.int .i64 (⟨pr, sq, rn, tk⟩ : Entry).prio, .int .i64 (⟨pr, sq, rn, tk⟩ : Entry).seq, .int .i64 (⟨pr, sq, rn, tk⟩ : Entry).run, .int .i64 (⟨pr, sq, rn, tk⟩ : Entry).task] 96))
  have E := DBox.new 96 [.int .i64 (⟨pr, sq, rn, tk⟩ : Entry).prio, .int .i64 (⟨pr, sq, rn, tk⟩ : Entry).seq, .int .i64 (⟨pr, sq, rn, tk⟩ : Entry).run, .int .i64 (⟨pr, sq, rn, tk⟩ : Entry).task] (w.alloc (.cells #[.int .i64 y.now, .int .i64 y.seq, .slice A1 n1 c1, .slice A2 y.runs.length c2] 34)) (b := w.heap.size + 1) (by simp)
  have B0 : Below w.heap.size w ((w.alloc (.cells #[.int .i64 y.now, .int .i64 y.seq, .slice A1 n1 c1, .slice A2 y.runs.length c2] 34)).alloc (.cells #[.int .i64 (⟨pr, sq, rn, tk⟩ : Entry).prio, .int .i64 (⟨pr, sq, rn, tk⟩ : Entry).seq, .int .i64 (⟨pr, sq, rn, tk⟩ : Entry).run, .int .i64 (⟨pr, sq, rn, tk⟩ : Entry).task] 96)) := by repeat (first | exact Below.refl _ _ | refine Below.alloc ?_ (by simp <;> omega) _)
  have C := implRunAt_own y (⟨A1, n1, c1⟩, ⟨A2, y.runs.length, c2⟩) rn ((w.alloc (.cells #[.int .i64 y.now, .int .i64 y.seq, .slice A1 n1 c1, .slice A2 y.runs.length c2] 34)).alloc (.cells #[.int .i64 (⟨pr, sq, rn, tk⟩ : Entry).prio, .int .i64 (⟨pr, sq, rn, tk⟩ : Entry).seq, .int .i64 (⟨pr, sq, rn, tk⟩ : Entry).run, .int .i64 (⟨pr, sq, rn, tk⟩ : Entry).task] 96)) hl (HR.out _ B0)
  clear h
  rcases runAt_range y rn with hr | ⟨k, hk, hr⟩
  · have H := Lib.hid (fresh_no (e := ⟨pr, sq, rn, tk⟩) hr)
    rw [hr] at C
    clear hr
    go_enter Tryz.func92, Tryz.ntmps92
    go_wp2_with fail
    generalize ((w.alloc (.cells #[.int .i64 y.now, .int .i64 y.seq, .slice A1 n1 c1, .slice A2 y.runs.length c2] 34)).alloc (.cells #[.int .i64 (⟨pr, sq, rn, tk⟩ : Entry).prio, .int .i64 (⟨pr, sq, rn, tk⟩ : Entry).seq, .int .i64 (⟨pr, sq, rn, tk⟩ : Entry).run, .int .i64 (⟨pr, sq, rn, tk⟩ : Entry).task] 96)) = W at *
    refine C.mono ?_
    rintro e1 w1 ⟨rfl, b1⟩
    replace X := X.below b1
    replace E := E.below b1
    have X_0 := X.cell 0 _ rfl
    have X_1 := X.cell 1 _ rfl
    have X_2 := X.cell 2 _ rfl
    have X_3 := X.cell 3 _ rfl
    have X_l := X.lt
    have E_0 := E.cell 0 _ rfl
    have E_1 := E.cell 1 _ rfl
    have E_2 := E.cell 2 _ rfl
    have E_3 := E.cell 3 _ rfl
    have E_l := E.lt
    have hlc := later_cell w1
    go_wp2
    refine wp_region_pure (by kernel_rfl) (by kernel_rfl) ?_
    repeat (go_big_quiet_step (fail))
    refine wpQuiet_nil ?_
    rintro _ ⟨⟨w2, b2⟩, rfl⟩
    clear hlc
    go_wp2
    go_ret
    exact ⟨ret_bool H.out.symm, bnext (bnext B0 b1) b2⟩
  · have hrt := cnt_run_tasks hl hk
    have HR2 := Lib.hid hr
    rw [hr] at C
    clear hr
    go_enter Tryz.func92, Tryz.ntmps92
    go_wp2_with fail
    generalize ((w.alloc (.cells #[.int .i64 y.now, .int .i64 y.seq, .slice A1 n1 c1, .slice A2 y.runs.length c2] 34)).alloc (.cells #[.int .i64 (⟨pr, sq, rn, tk⟩ : Entry).prio, .int .i64 (⟨pr, sq, rn, tk⟩ : Entry).seq, .int .i64 (⟨pr, sq, rn, tk⟩ : Entry).run, .int .i64 (⟨pr, sq, rn, tk⟩ : Entry).task] 96)) = W at *
    refine C.mono ?_
    rintro e1 w1 ⟨rfl, b1⟩
    replace X := X.below b1
    replace E := E.below b1
    have X_0 := X.cell 0 _ rfl
    have X_1 := X.cell 1 _ rfl
    have X_2 := X.cell 2 _ rfl
    have X_3 := X.cell 3 _ rfl
    have X_l := X.lt
    have E_0 := E.cell 0 _ rfl
    have E_1 := E.cell 1 _ rfl
    have E_2 := E.cell 2 _ rfl
    have E_3 := E.cell 3 _ rfl
    have E_l := E.lt
    replace B0 := bnext B0 b1
    obtain ⟨b, o, ⟨s1, ⟨At, nt, ct⟩⟩, hA2, hbb, hrr, c0_, c1_, c2_, c3_, c4_, c5_, c6_, c7_⟩ := (h2.below B0).run hk
    subst hA2
    obtain rfl : nt = y.runs[k].tasks.length := RdL.at1 (s := ⟨At, nt, ct⟩) hrr.2
    have h3 : RdL taskD w1 w.heap.size (.slice At y.runs[k].tasks.length ct) y.runs[k].tasks := hrr.2
    have hkI : (k : Int) < (y.runs.length : Int) := by omega
    have hk0 : decide ((0 : Int) ≤ (k : Int)) = true := decide_eq_true (by omega)
    have hlc := later_cell w1
    have hs1 : b < w1.heap.size := Nat.lt_of_lt_of_le hbb B0.size
    have wr1 : IntKind.i64.wrap ((y.runs[k].tasks.length : Int) - 1) = (y.runs[k].tasks.length : Int) - 1 := IntWalk.i64_in _ (by omega)
    cases q : inB tk 0 ((y.runs[k].tasks.length : Int) - 1)
    · have H := Lib.hid (fresh_out (e := ⟨pr, sq, rn, tk⟩) hk HR2.out q)
      go_wp2
      refine wp_region_pure (by kernel_rfl) (by kernel_rfl) ?_
      repeat (go_big_quiet_step ((go_at_call 29; exact pure_same (fun u => within_any _ _ _ u.1))))
      refine wpQuiet_nil ?_
      rintro _ ⟨⟨w2, b2⟩, rfl⟩
      clear hlc
      go_wp2
      go_ret
      exact ⟨ret_bool H.out.symm, bnext B0 b2⟩
    · have qq := inB_iff.1 q
      obtain ⟨t, rfl⟩ := Int.eq_ofNat_of_zero_le qq.1
      have ht : t < y.runs[k].tasks.length := by omega
      obtain ⟨b', o', _, hAt, hbb', _, d0, d1, d2, d3⟩ := h3.task ht
      subst hAt
      have hs2 : b' < w1.heap.size := Nat.lt_of_lt_of_le hbb' B0.size
      have htI : (t : Int) < (y.runs[k].tasks.length : Int) := by omega
      have H := Lib.hid (fresh_st (e := ⟨pr, sq, rn, (t : Int)⟩) hk HR2.out ht rfl)
      clear qq
      generalize y.runs[k].tasks[t].state = st at *
      cases q2 : (st == 2)
      all_goals
        rw [q2] at H
        go_wp2
        refine wp_region_pure (by kernel_rfl) (by kernel_rfl) ?_
        repeat (go_big_quiet_step ((go_at_call 29; exact pure_same (fun u => within_any _ _ _ u.1))))
        refine wpQuiet_nil ?_
        rintro _ ⟨⟨w2, b2⟩, rfl⟩
        clear hlc
        go_wp2
        go_ret
        exact ⟨ret_bool H.out.symm, bnext B0 b2⟩

theorem specFresh_any (y : Yard) (s : Sl × Sl) (e : Entry) (w : World) (hl : cntYard y ≤ 2000000) (h : yardD.rd w w.heap.size y s) :
    Calls Tryz.prog 83 #[yardW y s, entryW e ()] w fun e' w' => e' = .returned (.bool (freshB y e)) ∧ Below w.heap.size w w' := by
  have HR := Lib.hid (show ∀ W, Below w.heap.size w W → yardD.rd W W.heap.size y s from fun W hW => yardD.rd_more (yardD.rd_below h hW) hW.size)
  obtain ⟨⟨A1, n1, c1⟩, ⟨A2, n2, c2⟩⟩ := s
  obtain rfl : n2 = y.runs.length := RdL.at1 (s := ⟨A2, n2, c2⟩) h.2
  have h2 : RdL runD w w.heap.size (.slice A2 y.runs.length c2) y.runs := h.2
  have hll : y.runs.length ≤ 2000000 := Nat.le_trans (cntL_len cntRun _) (by unfold cntYard at hl; omega)
  obtain ⟨pr, sq, rn, tk⟩ := e
  have X := (DBox.new 34 [.int .i64 y.now, .int .i64 y.seq, .slice A1 n1 c1, .slice A2 y.runs.length c2] w (b := w.heap.size) rfl).below ((Below.refl _ _).alloc (Nat.le_refl _) (.cells #[.int .i64 (⟨pr, sq, rn, tk⟩ : Entry).prio, .int .i64 (⟨pr, sq, rn, tk⟩ : Entry).seq, .int .i64 (⟨pr, sq, rn, tk⟩ : Entry).run, .int .i64 (⟨pr, sq, rn, tk⟩ : Entry).task] 96))
  have E := DBox.new 96 [.int .i64 (⟨pr, sq, rn, tk⟩ : Entry).prio, .int .i64 (⟨pr, sq, rn, tk⟩ : Entry).seq, .int .i64 (⟨pr, sq, rn, tk⟩ : Entry).run, .int .i64 (⟨pr, sq, rn, tk⟩ : Entry).task] (w.alloc (.cells #[.int .i64 y.now, .int .i64 y.seq, .slice A1 n1 c1, .slice A2 y.runs.length c2] 34)) (b := w.heap.size + 1) (by simp)
  have B0 : Below w.heap.size w ((w.alloc (.cells #[.int .i64 y.now, .int .i64 y.seq, .slice A1 n1 c1, .slice A2 y.runs.length c2] 34)).alloc (.cells #[.int .i64 (⟨pr, sq, rn, tk⟩ : Entry).prio, .int .i64 (⟨pr, sq, rn, tk⟩ : Entry).seq, .int .i64 (⟨pr, sq, rn, tk⟩ : Entry).run, .int .i64 (⟨pr, sq, rn, tk⟩ : Entry).task] 96)) := by repeat (first | exact Below.refl _ _ | refine Below.alloc ?_ (by simp <;> omega) _)
  have C := specRunAt_own y (⟨A1, n1, c1⟩, ⟨A2, y.runs.length, c2⟩) rn ((w.alloc (.cells #[.int .i64 y.now, .int .i64 y.seq, .slice A1 n1 c1, .slice A2 y.runs.length c2] 34)).alloc (.cells #[.int .i64 (⟨pr, sq, rn, tk⟩ : Entry).prio, .int .i64 (⟨pr, sq, rn, tk⟩ : Entry).seq, .int .i64 (⟨pr, sq, rn, tk⟩ : Entry).run, .int .i64 (⟨pr, sq, rn, tk⟩ : Entry).task] 96)) hl (HR.out _ B0)
  clear h
  rcases runAt_range y rn with hr | ⟨k, hk, hr⟩
  · have H := Lib.hid (fresh_no (e := ⟨pr, sq, rn, tk⟩) hr)
    rw [hr] at C
    clear hr
    go_enter Tryz.func83, Tryz.ntmps83
    go_wp2_with fail
    generalize ((w.alloc (.cells #[.int .i64 y.now, .int .i64 y.seq, .slice A1 n1 c1, .slice A2 y.runs.length c2] 34)).alloc (.cells #[.int .i64 (⟨pr, sq, rn, tk⟩ : Entry).prio, .int .i64 (⟨pr, sq, rn, tk⟩ : Entry).seq, .int .i64 (⟨pr, sq, rn, tk⟩ : Entry).run, .int .i64 (⟨pr, sq, rn, tk⟩ : Entry).task] 96)) = W at *
    refine C.mono ?_
    rintro e1 w1 ⟨rfl, b1⟩
    replace X := X.below b1
    replace E := E.below b1
    have X_0 := X.cell 0 _ rfl
    have X_1 := X.cell 1 _ rfl
    have X_2 := X.cell 2 _ rfl
    have X_3 := X.cell 3 _ rfl
    have X_l := X.lt
    have E_0 := E.cell 0 _ rfl
    have E_1 := E.cell 1 _ rfl
    have E_2 := E.cell 2 _ rfl
    have E_3 := E.cell 3 _ rfl
    have E_l := E.lt
    have hlc := later_cell w1
    go_wp2
    refine wp_region_pure (by kernel_rfl) (by kernel_rfl) ?_
    repeat (go_big_quiet_step (fail))
    refine wpQuiet_nil ?_
    rintro _ ⟨⟨w2, b2⟩, rfl⟩
    clear hlc
    go_wp2
    go_ret
    exact ⟨ret_bool H.out.symm, bnext (bnext B0 b1) b2⟩
  · have hrt := cnt_run_tasks hl hk
    have HR2 := Lib.hid hr
    rw [hr] at C
    clear hr
    go_enter Tryz.func83, Tryz.ntmps83
    go_wp2_with fail
    generalize ((w.alloc (.cells #[.int .i64 y.now, .int .i64 y.seq, .slice A1 n1 c1, .slice A2 y.runs.length c2] 34)).alloc (.cells #[.int .i64 (⟨pr, sq, rn, tk⟩ : Entry).prio, .int .i64 (⟨pr, sq, rn, tk⟩ : Entry).seq, .int .i64 (⟨pr, sq, rn, tk⟩ : Entry).run, .int .i64 (⟨pr, sq, rn, tk⟩ : Entry).task] 96)) = W at *
    refine C.mono ?_
    rintro e1 w1 ⟨rfl, b1⟩
    replace X := X.below b1
    replace E := E.below b1
    have X_0 := X.cell 0 _ rfl
    have X_1 := X.cell 1 _ rfl
    have X_2 := X.cell 2 _ rfl
    have X_3 := X.cell 3 _ rfl
    have X_l := X.lt
    have E_0 := E.cell 0 _ rfl
    have E_1 := E.cell 1 _ rfl
    have E_2 := E.cell 2 _ rfl
    have E_3 := E.cell 3 _ rfl
    have E_l := E.lt
    replace B0 := bnext B0 b1
    obtain ⟨b, o, ⟨s1, ⟨At, nt, ct⟩⟩, hA2, hbb, hrr, c0_, c1_, c2_, c3_, c4_, c5_, c6_, c7_⟩ := (h2.below B0).run hk
    subst hA2
    obtain rfl : nt = y.runs[k].tasks.length := RdL.at1 (s := ⟨At, nt, ct⟩) hrr.2
    have h3 : RdL taskD w1 w.heap.size (.slice At y.runs[k].tasks.length ct) y.runs[k].tasks := hrr.2
    have hkI : (k : Int) < (y.runs.length : Int) := by omega
    have hk0 : decide ((0 : Int) ≤ (k : Int)) = true := decide_eq_true (by omega)
    have hlc := later_cell w1
    have hs1 : b < w1.heap.size := Nat.lt_of_lt_of_le hbb B0.size
    have wr1 : IntKind.i64.wrap ((y.runs[k].tasks.length : Int) - 1) = (y.runs[k].tasks.length : Int) - 1 := IntWalk.i64_in _ (by omega)
    cases q : inB tk 0 ((y.runs[k].tasks.length : Int) - 1)
    · have H := Lib.hid (fresh_out (e := ⟨pr, sq, rn, tk⟩) hk HR2.out q)
      go_wp2
      refine wp_region_pure (by kernel_rfl) (by kernel_rfl) ?_
      repeat (go_big_quiet_step ((go_at_call 26; exact pure_same (fun u => l01In_any _ _ _ u.1))))
      refine wpQuiet_nil ?_
      rintro _ ⟨⟨w2, b2⟩, rfl⟩
      clear hlc
      go_wp2
      go_ret
      exact ⟨ret_bool H.out.symm, bnext B0 b2⟩
    · have qq := inB_iff.1 q
      obtain ⟨t, rfl⟩ := Int.eq_ofNat_of_zero_le qq.1
      have ht : t < y.runs[k].tasks.length := by omega
      obtain ⟨b', o', _, hAt, hbb', _, d0, d1, d2, d3⟩ := h3.task ht
      subst hAt
      have hs2 : b' < w1.heap.size := Nat.lt_of_lt_of_le hbb' B0.size
      have htI : (t : Int) < (y.runs[k].tasks.length : Int) := by omega
      have H := Lib.hid (fresh_st (e := ⟨pr, sq, rn, (t : Int)⟩) hk HR2.out ht rfl)
      clear qq
      generalize y.runs[k].tasks[t].state = st at *
      cases q2 : (st == 2)
      all_goals
        rw [q2] at H
        go_wp2
        refine wp_region_pure (by kernel_rfl) (by kernel_rfl) ?_
        repeat (go_big_quiet_step ((go_at_call 26; exact pure_same (fun u => l01In_any _ _ _ u.1))))
        refine wpQuiet_nil ?_
        rintro _ ⟨⟨w2, b2⟩, rfl⟩
        clear hlc
        go_wp2
        go_ret
        exact ⟨ret_bool H.out.symm, bnext B0 b2⟩
end Go.Proofs.YtjobmbjadpldfaaGreat
end
section
namespace Go.Proofs.YtjobmbjadpldfaaGreat
open Go.RowKit
set_option maxRecDepth 100000
set_option maxHeartbeats 4000000
set_option linter.unusedVariables false
set_option linter.unusedSimpArgs false

theorem stand_bad1 {now : Int} {r : Run} {es : List Entry} {t k : Nat} (ht : t < r.tasks.length) (h2 : r.tasks[t].state = 2) (hk : k < es.length) (hm : mineE r.id t es[k] = true) (hp : ¬ es[k].prio = r.plan.prio) : ¬ standP now r es := by
  intro h
  have h3 := (h t ht).1
  rw [taskAt_get ht] at h3
  exact hp ((h3 h2).1 _ (List.getElem_mem hk) hm)
theorem stand_bad2 {now : Int} {r : Run} {es : List Entry} {t : Nat} (ht : t < r.tasks.length) (h2 : r.tasks[t].state = 2) (hm : ¬ mineN r.id t es = 1) : ¬ standP now r es := by
  intro h
  have h3 := (h t ht).1
  rw [taskAt_get ht] at h3
  exact hm (h3 h2).2
theorem stand_bad3 {now : Int} {r : Run} {es : List Entry} {t : Nat} (ht : t < r.tasks.length) (h2 : r.tasks[t].state = 3) (hm : inB r.tasks[t].until_ (now + 1) (now + r.plan.wait) = false) : ¬ standP now r es := by
  intro h
  have h3 := (h t ht).2
  rw [taskAt_get ht] at h3
  have := inB_iff.2 (h3 h2)
  rw [hm] at this
  cases this
theorem laid_ok {now : Int} {r : Run} {es : List Entry} {t : Nat} (ht : t < r.tasks.length) (h1 : r.tasks[t].state = 2 → (∀ j (hj : j < es.length), mineE r.id t es[j] = true → es[j].prio = r.plan.prio) ∧ mineN r.id t es = 1)
    (h2 : r.tasks[t].state = 3 → inB r.tasks[t].until_ (now + 1) (now + r.plan.wait) = true) : laidP now r es t := by
  unfold laidP
  rw [taskAt_get ht]
  refine ⟨fun h => ⟨fun e he hm => ?_, (h1 h).2⟩, fun h => inB_iff.1 (h2 h)⟩
  obtain ⟨j, hj, rfl⟩ := List.getElem_of_mem he
  exact (h1 h).1 j hj hm
/-- the entries of a task up to a place have the run's prio -/
def priosOk (r : Run) (t : Nat) (es : List Entry) (k : Nat) : Prop := ∀ j (hj : j < es.length), j < k → mineE r.id t es[j] = true → es[j].prio = r.plan.prio
theorem prios_step {r : Run} {t : Nat} {es : List Entry} {k : Nat} (h : priosOk r t es k) (hk : k < es.length) (hp : mineE r.id t es[k] = true → es[k].prio = r.plan.prio) : priosOk r t es (k + 1) := by
  intro j hj hjk hm
  by_cases e : j = k
  · subst e; exact hp hm
  · exact h j hj (by omega) hm

theorem implStand_any (y : Yard) (s : Sl × Sl) (r : Run) (s2 : Sl × Sl) (es : List Entry) (s3 : Sl) (w : World) (hl2 : r.tasks.length ≤ 2000000) (hl3 : es.length ≤ 2000000) (hn : 0 ≤ y.now ∧ y.now ≤ 999999980) (hw : 1 ≤ r.plan.wait ∧ r.plan.wait ≤ 20)
    (h' : runD.rd w w.heap.size r s2) (h3 : Rd entE w w.heap.size s3.v es) :
    Calls Tryz.prog 61 #[yardW y s, runW r s2, .slice s3.a s3.n s3.c] w fun e w' => e = .returned (.bool (tf (standP y.now r es))) ∧ Below w.heap.size w w' := by
  obtain ⟨⟨A1, n1, c1⟩, ⟨A2, n2, c2⟩⟩ := s
  obtain ⟨⟨A4, n4, c4⟩, ⟨A5, n5, c5⟩⟩ := s2
  obtain ⟨A6, n6, c6⟩ := s3
  obtain rfl : n5 = r.tasks.length := RdL.at1 (s := ⟨A5, n5, c5⟩) h'.2
  obtain rfl : n6 = es.length := RdL.at1 (s := ⟨A6, n6, c6⟩) (ent_rdL h3)
  have h2 : RdL taskD w w.heap.size (.slice A5 r.tasks.length c5) r.tasks := h'.2
  have h3 : RdL entryD w w.heap.size (.slice A6 es.length c6) es := ent_rdL h3
  clear h'
  have X := (DBox.new 34 [.int .i64 y.now, .int .i64 y.seq, .slice A1 n1 c1, .slice A2 n2 c2] w (b := w.heap.size) rfl).below ((Below.refl _ _).alloc (Nat.le_refl _) (.cells #[.int .i64 r.id, .int .i64 r.plan.prio, .int .i64 r.plan.most, .int .i64 r.plan.wait, .int .i64 r.plan.tasks, .slice A4 n4 c4, .int .i64 r.state, .slice A5 r.tasks.length c5] 84))
  have R := DBox.new 84 [.int .i64 r.id, .int .i64 r.plan.prio, .int .i64 r.plan.most, .int .i64 r.plan.wait, .int .i64 r.plan.tasks, .slice A4 n4 c4, .int .i64 r.state, .slice A5 r.tasks.length c5] (w.alloc (.cells #[.int .i64 y.now, .int .i64 y.seq, .slice A1 n1 c1, .slice A2 n2 c2] 34)) (b := w.heap.size + 1) (by simp)
  have B0 : Below w.heap.size w ((w.alloc (.cells #[.int .i64 y.now, .int .i64 y.seq, .slice A1 n1 c1, .slice A2 n2 c2] 34)).alloc (.cells #[.int .i64 r.id, .int .i64 r.plan.prio, .int .i64 r.plan.most, .int .i64 r.plan.wait, .int .i64 r.plan.tasks, .slice A4 n4 c4, .int .i64 r.state, .slice A5 r.tasks.length c5] 84)) := by repeat (first | exact Below.refl _ _ | refine Below.alloc ?_ (by simp <;> omega) _)
  have R_l := R.lt
  go_enter Tryz.func61, Tryz.ntmps61
  go_wp2
  generalize ((w.alloc (.cells #[.int .i64 y.now, .int .i64 y.seq, .slice A1 n1 c1, .slice A2 n2 c2] 34)).alloc (.cells #[.int .i64 r.id, .int .i64 r.plan.prio, .int .i64 r.plan.most, .int .i64 r.plan.wait, .int .i64 r.plan.tasks, .slice A4 n4 c4, .int .i64 r.state, .slice A5 r.tasks.length c5] 84)) = W at *
  go_loopw [15] (fun i wr => ∃ k : Nat, k ≤ r.tasks.length ∧ i = .int .i64 k ∧ Hid (∀ t, t < k → laidP y.now r es t) ∧ Below W.heap.size W wr) (fun i _ => r.tasks.length - (intOf i).toNat)
  case atStart => exact ⟨0, Nat.zero_le _, rfl, fun t ht => absurd ht (by omega), Below.refl _ _⟩
  case round =>
    obtain ⟨t, hk, rfl, hok, hb⟩ := hrel
    by_cases hlt : t < r.tasks.length
    · have hltI : (t : Int) < (r.tasks.length : Int) := by omega
      obtain ⟨b, o, _, hA5, hbb, _, d0, d1, d2, d3⟩ := (h2.below (bnext B0 hb)).task hlt
      subst hA5
      have hs1 : b < wr.heap.size := Nat.lt_of_lt_of_le hbb (bnext B0 hb).size
      have T := DBox.new 120 [.int .i64 r.tasks[t].state, .int .i64 r.tasks[t].need, .int .i64 r.tasks[t].try_, .int .i64 r.tasks[t].until_] wr rfl
      have ha : Below wr.heap.size wr (wr.alloc (.cells #[.int .i64 r.tasks[t].state, .int .i64 r.tasks[t].need, .int .i64 r.tasks[t].try_, .int .i64 r.tasks[t].until_] 120)) := (Below.refl _ _).alloc (Nat.le_refl _) _
      go_wp2
      generalize wr.alloc (.cells #[.int .i64 r.tasks[t].state, .int .i64 r.tasks[t].need, .int .i64 r.tasks[t].try_, .int .i64 r.tasks[t].until_] 120) = W2 at *
      have Hb2 := bnext hb ha
      clear d0 d1 d2 d3 hs1
      go_loopw [9, 22] (fun n i wq => ∃ j : Nat, j ≤ es.length ∧ i = .int .i64 j ∧ n = .int .i64 (mineN r.id t (es.take j) : Nat) ∧ Hid (r.tasks[t].state = 2 → priosOk r t es j) ∧ Below W2.heap.size W2 wq) (fun _ i _ => es.length - (intOf i).toNat)
      case atStart => exact ⟨0, Nat.zero_le _, rfl, rfl, fun _ j hj h0 => absurd h0 (by omega), Below.refl _ _⟩
      case round =>
        obtain ⟨j, hj, rfl, rfl, hpo, hb2⟩ := hrel
        have hmn := mineN_le r.id t (es.take j)
        rw [List.length_take] at hmn
        have X := (X.below Hb2).below hb2
        have R := (R.below Hb2).below hb2
        replace T := T.below hb2
        have X_0 := X.cell 0 _ rfl
        have X_1 := X.cell 1 _ rfl
        have X_2 := X.cell 2 _ rfl
        have X_3 := X.cell 3 _ rfl
        have X_l := X.lt
        have R_0 := R.cell 0 _ rfl
        have R_1 := R.cell 1 _ rfl
        have R_2 := R.cell 2 _ rfl
        have R_3 := R.cell 3 _ rfl
        have R_4 := R.cell 4 _ rfl
        have R_5 := R.cell 5 _ rfl
        have R_6 := R.cell 6 _ rfl
        have R_7 := R.cell 7 _ rfl
        have R_l := R.lt
        have T_0 := T.cell 0 _ rfl
        have T_1 := T.cell 1 _ rfl
        have T_2 := T.cell 2 _ rfl
        have T_3 := T.cell 3 _ rfl
        have T_l := T.lt
        have B1 := bnext (bnext B0 Hb2) hb2
        by_cases hjt : j < es.length
        · have hjI : (j : Int) < (es.length : Int) := by omega
          obtain ⟨b6, o6, _, hA6, hbb6, _, f0, f1, f2, f3⟩ := (h3.below B1).entry hjt
          subst hA6
          have hs6 : b6 < wr.heap.size := Nat.lt_of_lt_of_le hbb6 B1.size
          have hE : Below wr.heap.size wr (wr.alloc (.cells #[.int .i64 es[j].prio, .int .i64 es[j].seq, .int .i64 es[j].run, .int .i64 es[j].task] 96)) := (Below.refl _ _).alloc (Nat.le_refl _) _
          have HM : Hid (mineE r.id t es[j] = ((es[j].run == r.id) && (es[j].task == (t : Int)))) := rfl
          have HY := Lib.hid (mineN_yes (id := r.id) (t := t) hjt)
          have HN := Lib.hid (mineN_no (id := r.id) (t := t) hjt)
          cases q1 : (es[j].run == r.id)
          · have hm : mineE r.id t es[j] = false := by rw [HM.out, q1]; rfl
            have S := Lib.hid (HN.out hm)
            have S2 : Hid (r.tasks[t].state = 2 → priosOk r t es (j + 1)) := fun h2 => prios_step (hpo.out h2) hjt (fun hh => by rw [hm] at hh; cases hh)
            clear hm
            go_wp2
            first
              | exact ⟨⟨j + 1, by omega, by go_num, by rw [S.out], S2, bnext hb2 hE⟩, by simp [intOf]; omega⟩
              | (refine ⟨?_, by simp [intOf]; omega⟩; (repeat apply Exists.intro); first | exact ⟨⟨j + 1, by omega, by go_num, by rw [S.out], S2, bnext hb2 hE⟩, rfl⟩ | exact ⟨⟨j + 1, by omega, by go_num, by rw [S.out], S2, bnext hb2 hE⟩, rfl, rfl⟩ | exact ⟨⟨j + 1, by omega, by go_num, by rw [S.out], S2, bnext hb2 hE⟩, rfl, rfl, rfl⟩ | exact ⟨⟨j + 1, by omega, by go_num, by rw [S.out], S2, bnext hb2 hE⟩, rfl, rfl, rfl, rfl⟩ | exact ⟨⟨j + 1, by omega, by go_num, by rw [S.out], S2, bnext hb2 hE⟩, rfl, rfl, rfl, rfl, rfl⟩ | exact ⟨⟨j + 1, by omega, by go_num, by rw [S.out], S2, bnext hb2 hE⟩, rfl, rfl, rfl, rfl, rfl, rfl⟩ | exact ⟨⟨j + 1, by omega, by go_num, by rw [S.out], S2, bnext hb2 hE⟩, rfl, rfl, rfl, rfl, rfl, rfl, rfl⟩ | exact ⟨⟨j + 1, by omega, by go_num, by rw [S.out], S2, bnext hb2 hE⟩, rfl, rfl, rfl, rfl, rfl, rfl, rfl, rfl⟩ | exact ⟨⟨j + 1, by omega, by go_num, by rw [S.out], S2, bnext hb2 hE⟩, rfl, rfl, rfl, rfl, rfl, rfl, rfl, rfl, rfl⟩ | exact ⟨⟨j + 1, by omega, by go_num, by rw [S.out], S2, bnext hb2 hE⟩, rfl, rfl, rfl, rfl, rfl, rfl, rfl, rfl, rfl, rfl⟩ | exact ⟨⟨j + 1, by omega, by go_num, by rw [S.out], S2, bnext hb2 hE⟩, rfl, rfl, rfl, rfl, rfl, rfl, rfl, rfl, rfl, rfl, rfl⟩ | exact ⟨⟨j + 1, by omega, by go_num, by rw [S.out], S2, bnext hb2 hE⟩, rfl, rfl, rfl, rfl, rfl, rfl, rfl, rfl, rfl, rfl, rfl, rfl⟩ | exact ⟨⟨j + 1, by omega, by go_num, by rw [S.out], S2, bnext hb2 hE⟩, rfl, rfl, rfl, rfl, rfl, rfl, rfl, rfl, rfl, rfl, rfl, rfl, rfl⟩ | exact ⟨⟨j + 1, by omega, by go_num, by rw [S.out], S2, bnext hb2 hE⟩, rfl, rfl, rfl, rfl, rfl, rfl, rfl, rfl, rfl, rfl, rfl, rfl, rfl, rfl⟩ | exact ⟨⟨j + 1, by omega, by go_num, by rw [S.out], S2, bnext hb2 hE⟩, rfl, rfl, rfl, rfl, rfl, rfl, rfl, rfl, rfl, rfl, rfl, rfl, rfl, rfl, rfl⟩)
          cases q2 : (es[j].task == (t : Int))
          · have hm : mineE r.id t es[j] = false := by rw [HM.out, q1, q2]; rfl
            have S := Lib.hid (HN.out hm)
            have S2 : Hid (r.tasks[t].state = 2 → priosOk r t es (j + 1)) := fun h2 => prios_step (hpo.out h2) hjt (fun hh => by rw [hm] at hh; cases hh)
            clear hm
            go_wp2
            first
              | exact ⟨⟨j + 1, by omega, by go_num, by rw [S.out], S2, bnext hb2 hE⟩, by simp [intOf]; omega⟩
              | (refine ⟨?_, by simp [intOf]; omega⟩; (repeat apply Exists.intro); first | exact ⟨⟨j + 1, by omega, by go_num, by rw [S.out], S2, bnext hb2 hE⟩, rfl⟩ | exact ⟨⟨j + 1, by omega, by go_num, by rw [S.out], S2, bnext hb2 hE⟩, rfl, rfl⟩ | exact ⟨⟨j + 1, by omega, by go_num, by rw [S.out], S2, bnext hb2 hE⟩, rfl, rfl, rfl⟩ | exact ⟨⟨j + 1, by omega, by go_num, by rw [S.out], S2, bnext hb2 hE⟩, rfl, rfl, rfl, rfl⟩ | exact ⟨⟨j + 1, by omega, by go_num, by rw [S.out], S2, bnext hb2 hE⟩, rfl, rfl, rfl, rfl, rfl⟩ | exact ⟨⟨j + 1, by omega, by go_num, by rw [S.out], S2, bnext hb2 hE⟩, rfl, rfl, rfl, rfl, rfl, rfl⟩ | exact ⟨⟨j + 1, by omega, by go_num, by rw [S.out], S2, bnext hb2 hE⟩, rfl, rfl, rfl, rfl, rfl, rfl, rfl⟩ | exact ⟨⟨j + 1, by omega, by go_num, by rw [S.out], S2, bnext hb2 hE⟩, rfl, rfl, rfl, rfl, rfl, rfl, rfl, rfl⟩ | exact ⟨⟨j + 1, by omega, by go_num, by rw [S.out], S2, bnext hb2 hE⟩, rfl, rfl, rfl, rfl, rfl, rfl, rfl, rfl, rfl⟩ | exact ⟨⟨j + 1, by omega, by go_num, by rw [S.out], S2, bnext hb2 hE⟩, rfl, rfl, rfl, rfl, rfl, rfl, rfl, rfl, rfl, rfl⟩ | exact ⟨⟨j + 1, by omega, by go_num, by rw [S.out], S2, bnext hb2 hE⟩, rfl, rfl, rfl, rfl, rfl, rfl, rfl, rfl, rfl, rfl, rfl⟩ | exact ⟨⟨j + 1, by omega, by go_num, by rw [S.out], S2, bnext hb2 hE⟩, rfl, rfl, rfl, rfl, rfl, rfl, rfl, rfl, rfl, rfl, rfl, rfl⟩ | exact ⟨⟨j + 1, by omega, by go_num, by rw [S.out], S2, bnext hb2 hE⟩, rfl, rfl, rfl, rfl, rfl, rfl, rfl, rfl, rfl, rfl, rfl, rfl, rfl⟩ | exact ⟨⟨j + 1, by omega, by go_num, by rw [S.out], S2, bnext hb2 hE⟩, rfl, rfl, rfl, rfl, rfl, rfl, rfl, rfl, rfl, rfl, rfl, rfl, rfl, rfl⟩ | exact ⟨⟨j + 1, by omega, by go_num, by rw [S.out], S2, bnext hb2 hE⟩, rfl, rfl, rfl, rfl, rfl, rfl, rfl, rfl, rfl, rfl, rfl, rfl, rfl, rfl, rfl⟩)
          have hm : mineE r.id t es[j] = true := by rw [HM.out, q1, q2]; rfl
          have S := Lib.hid (HY.out hm)
          have HM2 := Lib.hid hm
          clear hm
          by_cases q3 : r.tasks[t].state = 2
          · have q3' : (r.tasks[t].state == 2) = true := beq_iff_eq.2 q3
            by_cases q4 : es[j].prio = r.plan.prio
            · have q4' : (es[j].prio != r.plan.prio) = false := by simp [q4]
              have S2 : Hid (r.tasks[t].state = 2 → priosOk r t es (j + 1)) := fun h2 => prios_step (hpo.out h2) hjt (fun _ => q4)
              clear q3 q4
              go_wp2
              first
                | exact ⟨⟨j + 1, by omega, by go_num, by rw [S.out]; go_num, S2, bnext hb2 hE⟩, by simp [intOf]; omega⟩
                | (refine ⟨?_, by simp [intOf]; omega⟩; (repeat apply Exists.intro); first | exact ⟨⟨j + 1, by omega, by go_num, by rw [S.out]; go_num, S2, bnext hb2 hE⟩, rfl⟩ | exact ⟨⟨j + 1, by omega, by go_num, by rw [S.out]; go_num, S2, bnext hb2 hE⟩, rfl, rfl⟩ | exact ⟨⟨j + 1, by omega, by go_num, by rw [S.out]; go_num, S2, bnext hb2 hE⟩, rfl, rfl, rfl⟩ | exact ⟨⟨j + 1, by omega, by go_num, by rw [S.out]; go_num, S2, bnext hb2 hE⟩, rfl, rfl, rfl, rfl⟩ | exact ⟨⟨j + 1, by omega, by go_num, by rw [S.out]; go_num, S2, bnext hb2 hE⟩, rfl, rfl, rfl, rfl, rfl⟩ | exact ⟨⟨j + 1, by omega, by go_num, by rw [S.out]; go_num, S2, bnext hb2 hE⟩, rfl, rfl, rfl, rfl, rfl, rfl⟩ | exact ⟨⟨j + 1, by omega, by go_num, by rw [S.out]; go_num, S2, bnext hb2 hE⟩, rfl, rfl, rfl, rfl, rfl, rfl, rfl⟩ | exact ⟨⟨j + 1, by omega, by go_num, by rw [S.out]; go_num, S2, bnext hb2 hE⟩, rfl, rfl, rfl, rfl, rfl, rfl, rfl, rfl⟩ | exact ⟨⟨j + 1, by omega, by go_num, by rw [S.out]; go_num, S2, bnext hb2 hE⟩, rfl, rfl, rfl, rfl, rfl, rfl, rfl, rfl, rfl⟩ | exact ⟨⟨j + 1, by omega, by go_num, by rw [S.out]; go_num, S2, bnext hb2 hE⟩, rfl, rfl, rfl, rfl, rfl, rfl, rfl, rfl, rfl, rfl⟩ | exact ⟨⟨j + 1, by omega, by go_num, by rw [S.out]; go_num, S2, bnext hb2 hE⟩, rfl, rfl, rfl, rfl, rfl, rfl, rfl, rfl, rfl, rfl, rfl⟩ | exact ⟨⟨j + 1, by omega, by go_num, by rw [S.out]; go_num, S2, bnext hb2 hE⟩, rfl, rfl, rfl, rfl, rfl, rfl, rfl, rfl, rfl, rfl, rfl, rfl⟩ | exact ⟨⟨j + 1, by omega, by go_num, by rw [S.out]; go_num, S2, bnext hb2 hE⟩, rfl, rfl, rfl, rfl, rfl, rfl, rfl, rfl, rfl, rfl, rfl, rfl, rfl⟩ | exact ⟨⟨j + 1, by omega, by go_num, by rw [S.out]; go_num, S2, bnext hb2 hE⟩, rfl, rfl, rfl, rfl, rfl, rfl, rfl, rfl, rfl, rfl, rfl, rfl, rfl, rfl⟩ | exact ⟨⟨j + 1, by omega, by go_num, by rw [S.out]; go_num, S2, bnext hb2 hE⟩, rfl, rfl, rfl, rfl, rfl, rfl, rfl, rfl, rfl, rfl, rfl, rfl, rfl, rfl, rfl⟩)
            · have q4' : (es[j].prio != r.plan.prio) = true := by simp [q4]
              have H := Lib.hid (tf_false (stand_bad1 (now := y.now) hlt q3 hjt HM2.out q4))
              clear q3 q4
              go_wp2
              go_ret
              exact ⟨ret_bool H.out.symm, bnext B1 hE⟩
          · have q3' : (r.tasks[t].state == 2) = false := beq_eq_false_iff_ne.2 q3
            have S2 : Hid (r.tasks[t].state = 2 → priosOk r t es (j + 1)) := fun h2 => absurd h2 q3
            clear q3
            go_wp2
            first
              | exact ⟨⟨j + 1, by omega, by go_num, by rw [S.out]; go_num, S2, bnext hb2 hE⟩, by simp [intOf]; omega⟩
              | (refine ⟨?_, by simp [intOf]; omega⟩; (repeat apply Exists.intro); first | exact ⟨⟨j + 1, by omega, by go_num, by rw [S.out]; go_num, S2, bnext hb2 hE⟩, rfl⟩ | exact ⟨⟨j + 1, by omega, by go_num, by rw [S.out]; go_num, S2, bnext hb2 hE⟩, rfl, rfl⟩ | exact ⟨⟨j + 1, by omega, by go_num, by rw [S.out]; go_num, S2, bnext hb2 hE⟩, rfl, rfl, rfl⟩ | exact ⟨⟨j + 1, by omega, by go_num, by rw [S.out]; go_num, S2, bnext hb2 hE⟩, rfl, rfl, rfl, rfl⟩ | exact ⟨⟨j + 1, by omega, by go_num, by rw [S.out]; go_num, S2, bnext hb2 hE⟩, rfl, rfl, rfl, rfl, rfl⟩ | exact ⟨⟨j + 1, by omega, by go_num, by rw [S.out]; go_num, S2, bnext hb2 hE⟩, rfl, rfl, rfl, rfl, rfl, rfl⟩ | exact ⟨⟨j + 1, by omega, by go_num, by rw [S.out]; go_num, S2, bnext hb2 hE⟩, rfl, rfl, rfl, rfl, rfl, rfl, rfl⟩ | exact ⟨⟨j + 1, by omega, by go_num, by rw [S.out]; go_num, S2, bnext hb2 hE⟩, rfl, rfl, rfl, rfl, rfl, rfl, rfl, rfl⟩ | exact ⟨⟨j + 1, by omega, by go_num, by rw [S.out]; go_num, S2, bnext hb2 hE⟩, rfl, rfl, rfl, rfl, rfl, rfl, rfl, rfl, rfl⟩ | exact ⟨⟨j + 1, by omega, by go_num, by rw [S.out]; go_num, S2, bnext hb2 hE⟩, rfl, rfl, rfl, rfl, rfl, rfl, rfl, rfl, rfl, rfl⟩ | exact ⟨⟨j + 1, by omega, by go_num, by rw [S.out]; go_num, S2, bnext hb2 hE⟩, rfl, rfl, rfl, rfl, rfl, rfl, rfl, rfl, rfl, rfl, rfl⟩ | exact ⟨⟨j + 1, by omega, by go_num, by rw [S.out]; go_num, S2, bnext hb2 hE⟩, rfl, rfl, rfl, rfl, rfl, rfl, rfl, rfl, rfl, rfl, rfl, rfl⟩ | exact ⟨⟨j + 1, by omega, by go_num, by rw [S.out]; go_num, S2, bnext hb2 hE⟩, rfl, rfl, rfl, rfl, rfl, rfl, rfl, rfl, rfl, rfl, rfl, rfl, rfl⟩ | exact ⟨⟨j + 1, by omega, by go_num, by rw [S.out]; go_num, S2, bnext hb2 hE⟩, rfl, rfl, rfl, rfl, rfl, rfl, rfl, rfl, rfl, rfl, rfl, rfl, rfl, rfl⟩ | exact ⟨⟨j + 1, by omega, by go_num, by rw [S.out]; go_num, S2, bnext hb2 hE⟩, rfl, rfl, rfl, rfl, rfl, rfl, rfl, rfl, rfl, rfl, rfl, rfl, rfl, rfl, rfl⟩)
        · have hjI : ¬ (j : Int) < (es.length : Int) := by omega
          have hj' : j = es.length := by omega
          subst hj'
          have HP : Hid (r.tasks[t].state = 2 → ∀ j (hj : j < es.length), mineE r.id t es[j] = true → es[j].prio = r.plan.prio) := fun h2 j hj hm => hpo.out h2 j hj hj hm
          have HMt := Lib.hid (show mineN r.id t (es.take es.length) = mineN r.id t es by rw [List.take_length])
          have HMb := Lib.hid (show ∀ M : Int, M = (mineN r.id t es : Nat) → (M = 1 ↔ mineN r.id t es = 1) from fun M hM => by omega)
          have step : laidP y.now r es t → Hid (∀ t', t' < t + 1 → laidP y.now r es t') := fun hx t' ht' => by
            by_cases e : t' = t
            · subst e; exact hx
            · exact hok.out t' (by omega)
          have w1' : IntKind.i64.wrap (y.now + 1) = y.now + 1 := IntWalk.i64_in _ (by omega)
          have w2' : IntKind.i64.wrap (y.now + r.plan.wait) = y.now + r.plan.wait := IntWalk.i64_in _ (by omega)
          by_cases q3 : r.tasks[t].state = 2
          · have q3' : (r.tasks[t].state == 2) = true := beq_iff_eq.2 q3
            have q5' : (r.tasks[t].state == 3) = false := beq_eq_false_iff_ne.2 (by omega)
            by_cases q4 : mineN r.id t es = 1
            · have S := step (laid_ok hlt (fun h => ⟨HP.out h, q4⟩) (fun h => by omega))
              have q4' : ((mineN r.id t es : Int) != 1) = false := by simp [q4]
              clear q3 q4 step
              go_wp2
              first
                | exact ⟨⟨t + 1, by omega, by go_num, S, bnext Hb2 hb2⟩, by simp [intOf]; omega⟩
                | (refine ⟨?_, by simp [intOf]; omega⟩; (repeat apply Exists.intro); first | exact ⟨⟨t + 1, by omega, by go_num, S, bnext Hb2 hb2⟩, rfl⟩ | exact ⟨⟨t + 1, by omega, by go_num, S, bnext Hb2 hb2⟩, rfl, rfl⟩ | exact ⟨⟨t + 1, by omega, by go_num, S, bnext Hb2 hb2⟩, rfl, rfl, rfl⟩ | exact ⟨⟨t + 1, by omega, by go_num, S, bnext Hb2 hb2⟩, rfl, rfl, rfl, rfl⟩ | exact ⟨⟨t + 1, by omega, by go_num, S, bnext Hb2 hb2⟩, rfl, rfl, rfl, rfl, rfl⟩ | exact ⟨⟨t + 1, by omega, by go_num, S, bnext Hb2 hb2⟩, rfl, rfl, rfl, rfl, rfl, rfl⟩ | exact ⟨⟨t + 1, by omega, by go_num, S, bnext Hb2 hb2⟩, rfl, rfl, rfl, rfl, rfl, rfl, rfl⟩ | exact ⟨⟨t + 1, by omega, by go_num, S, bnext Hb2 hb2⟩, rfl, rfl, rfl, rfl, rfl, rfl, rfl, rfl⟩ | exact ⟨⟨t + 1, by omega, by go_num, S, bnext Hb2 hb2⟩, rfl, rfl, rfl, rfl, rfl, rfl, rfl, rfl, rfl⟩ | exact ⟨⟨t + 1, by omega, by go_num, S, bnext Hb2 hb2⟩, rfl, rfl, rfl, rfl, rfl, rfl, rfl, rfl, rfl, rfl⟩ | exact ⟨⟨t + 1, by omega, by go_num, S, bnext Hb2 hb2⟩, rfl, rfl, rfl, rfl, rfl, rfl, rfl, rfl, rfl, rfl, rfl⟩ | exact ⟨⟨t + 1, by omega, by go_num, S, bnext Hb2 hb2⟩, rfl, rfl, rfl, rfl, rfl, rfl, rfl, rfl, rfl, rfl, rfl, rfl⟩ | exact ⟨⟨t + 1, by omega, by go_num, S, bnext Hb2 hb2⟩, rfl, rfl, rfl, rfl, rfl, rfl, rfl, rfl, rfl, rfl, rfl, rfl, rfl⟩ | exact ⟨⟨t + 1, by omega, by go_num, S, bnext Hb2 hb2⟩, rfl, rfl, rfl, rfl, rfl, rfl, rfl, rfl, rfl, rfl, rfl, rfl, rfl, rfl⟩ | exact ⟨⟨t + 1, by omega, by go_num, S, bnext Hb2 hb2⟩, rfl, rfl, rfl, rfl, rfl, rfl, rfl, rfl, rfl, rfl, rfl, rfl, rfl, rfl, rfl⟩)
            · have H := Lib.hid (tf_false (stand_bad2 (now := y.now) hlt q3 q4))
              have q4' : ((mineN r.id t es : Int) != 1) = true := by simp; omega
              clear q3 q4 step
              go_wp2
              go_ret
              exact ⟨ret_bool H.out.symm, B1⟩
          · have q3' : (r.tasks[t].state == 2) = false := beq_eq_false_iff_ne.2 q3
            by_cases q5 : r.tasks[t].state = 3
            · have q5' : (r.tasks[t].state == 3) = true := beq_iff_eq.2 q5
              cases q6 : inB r.tasks[t].until_ (y.now + 1) (y.now + r.plan.wait)
              · have H := Lib.hid (tf_false (stand_bad3 (es := es) hlt q5 q6))
                clear q3 q5 step
                go_wp2_with (go_at_call 29; refine (within_any _ _ _ _).mono ?_; rintro e w' ⟨rfl, rfl⟩)
                go_ret
                exact ⟨ret_bool H.out.symm, B1⟩
              · have S := step (laid_ok hlt (fun h => absurd h q3) (fun _ => q6))
                clear q3 q5 step
                go_wp2_with (go_at_call 29; refine (within_any _ _ _ _).mono ?_; rintro e w' ⟨rfl, rfl⟩)
                first
                  | exact ⟨⟨t + 1, by omega, by go_num, S, bnext Hb2 hb2⟩, by simp [intOf]; omega⟩
                  | (refine ⟨?_, by simp [intOf]; omega⟩; (repeat apply Exists.intro); first | exact ⟨⟨t + 1, by omega, by go_num, S, bnext Hb2 hb2⟩, rfl⟩ | exact ⟨⟨t + 1, by omega, by go_num, S, bnext Hb2 hb2⟩, rfl, rfl⟩ | exact ⟨⟨t + 1, by omega, by go_num, S, bnext Hb2 hb2⟩, rfl, rfl, rfl⟩ | exact ⟨⟨t + 1, by omega, by go_num, S, bnext Hb2 hb2⟩, rfl, rfl, rfl, rfl⟩ | exact ⟨⟨t + 1, by omega, by go_num, S, bnext Hb2 hb2⟩, rfl, rfl, rfl, rfl, rfl⟩ | exact ⟨⟨t + 1, by omega, by go_num, S, bnext Hb2 hb2⟩, rfl, rfl, rfl, rfl, rfl, rfl⟩ | exact ⟨⟨t + 1, by omega, by go_num, S, bnext Hb2 hb2⟩, rfl, rfl, rfl, rfl, rfl, rfl, rfl⟩ | exact ⟨⟨t + 1, by omega, by go_num, S, bnext Hb2 hb2⟩, rfl, rfl, rfl, rfl, rfl, rfl, rfl, rfl⟩ | exact ⟨⟨t + 1, by omega, by go_num, S, bnext Hb2 hb2⟩, rfl, rfl, rfl, rfl, rfl, rfl, rfl, rfl, rfl⟩ | exact ⟨⟨t + 1, by omega, by go_num, S, bnext Hb2 hb2⟩, rfl, rfl, rfl, rfl, rfl, rfl, rfl, rfl, rfl, rfl⟩ | exact ⟨⟨t + 1, by omega, by go_num, S, bnext Hb2 hb2⟩, rfl, rfl, rfl, rfl, rfl, rfl, rfl, rfl, rfl, rfl, rfl⟩ | exact ⟨⟨t + 1, by omega, by go_num, S, bnext Hb2 hb2⟩, rfl, rfl, rfl, rfl, rfl, rfl, rfl, rfl, rfl, rfl, rfl, rfl⟩ | exact ⟨⟨t + 1, by omega, by go_num, S, bnext Hb2 hb2⟩, rfl, rfl, rfl, rfl, rfl, rfl, rfl, rfl, rfl, rfl, rfl, rfl, rfl⟩ | exact ⟨⟨t + 1, by omega, by go_num, S, bnext Hb2 hb2⟩, rfl, rfl, rfl, rfl, rfl, rfl, rfl, rfl, rfl, rfl, rfl, rfl, rfl, rfl⟩ | exact ⟨⟨t + 1, by omega, by go_num, S, bnext Hb2 hb2⟩, rfl, rfl, rfl, rfl, rfl, rfl, rfl, rfl, rfl, rfl, rfl, rfl, rfl, rfl, rfl⟩)
            · have q5' : (r.tasks[t].state == 3) = false := beq_eq_false_iff_ne.2 q5
              have S := step (laid_ok hlt (fun h => absurd h q3) (fun h => absurd h q5))
              clear q3 q5 step
              go_wp2
              first
                | exact ⟨⟨t + 1, by omega, by go_num, S, bnext Hb2 hb2⟩, by simp [intOf]; omega⟩
                | (refine ⟨?_, by simp [intOf]; omega⟩; (repeat apply Exists.intro); first | exact ⟨⟨t + 1, by omega, by go_num, S, bnext Hb2 hb2⟩, rfl⟩ | exact ⟨⟨t + 1, by omega, by go_num, S, bnext Hb2 hb2⟩, rfl, rfl⟩ | exact ⟨⟨t + 1, by omega, by go_num, S, bnext Hb2 hb2⟩, rfl, rfl, rfl⟩ | exact ⟨⟨t + 1, by omega, by go_num, S, bnext Hb2 hb2⟩, rfl, rfl, rfl, rfl⟩ | exact ⟨⟨t + 1, by omega, by go_num, S, bnext Hb2 hb2⟩, rfl, rfl, rfl, rfl, rfl⟩ | exact ⟨⟨t + 1, by omega, by go_num, S, bnext Hb2 hb2⟩, rfl, rfl, rfl, rfl, rfl, rfl⟩ | exact ⟨⟨t + 1, by omega, by go_num, S, bnext Hb2 hb2⟩, rfl, rfl, rfl, rfl, rfl, rfl, rfl⟩ | exact ⟨⟨t + 1, by omega, by go_num, S, bnext Hb2 hb2⟩, rfl, rfl, rfl, rfl, rfl, rfl, rfl, rfl⟩ | exact ⟨⟨t + 1, by omega, by go_num, S, bnext Hb2 hb2⟩, rfl, rfl, rfl, rfl, rfl, rfl, rfl, rfl, rfl⟩ | exact ⟨⟨t + 1, by omega, by go_num, S, bnext Hb2 hb2⟩, rfl, rfl, rfl, rfl, rfl, rfl, rfl, rfl, rfl, rfl⟩ | exact ⟨⟨t + 1, by omega, by go_num, S, bnext Hb2 hb2⟩, rfl, rfl, rfl, rfl, rfl, rfl, rfl, rfl, rfl, rfl, rfl⟩ | exact ⟨⟨t + 1, by omega, by go_num, S, bnext Hb2 hb2⟩, rfl, rfl, rfl, rfl, rfl, rfl, rfl, rfl, rfl, rfl, rfl, rfl⟩ | exact ⟨⟨t + 1, by omega, by go_num, S, bnext Hb2 hb2⟩, rfl, rfl, rfl, rfl, rfl, rfl, rfl, rfl, rfl, rfl, rfl, rfl, rfl⟩ | exact ⟨⟨t + 1, by omega, by go_num, S, bnext Hb2 hb2⟩, rfl, rfl, rfl, rfl, rfl, rfl, rfl, rfl, rfl, rfl, rfl, rfl, rfl, rfl⟩ | exact ⟨⟨t + 1, by omega, by go_num, S, bnext Hb2 hb2⟩, rfl, rfl, rfl, rfl, rfl, rfl, rfl, rfl, rfl, rfl, rfl, rfl, rfl, rfl, rfl⟩)
    · have hltI : ¬ (t : Int) < (r.tasks.length : Int) := by omega
      have H := Lib.hid (tf_true (show standP y.now r es from fun t' ht' => hok.out t' (by omega)))
      go_wp2
      go_ret
      exact ⟨ret_bool H.out.symm, bnext B0 hb⟩

theorem specStand_any (y : Yard) (s : Sl × Sl) (r : Run) (s2 : Sl × Sl) (es : List Entry) (s3 : Sl) (w : World) (hl2 : r.tasks.length ≤ 2000000) (hl3 : es.length ≤ 2000000) (hn : 0 ≤ y.now ∧ y.now ≤ 999999980) (hw : 1 ≤ r.plan.wait ∧ r.plan.wait ≤ 20)
    (h' : runD.rd w w.heap.size r s2) (h3 : Rd entE w w.heap.size s3.v es) :
    Calls Tryz.prog 53 #[yardW y s, runW r s2, .slice s3.a s3.n s3.c] w fun e w' => e = .returned (.bool (tf (standP y.now r es))) ∧ Below w.heap.size w w' := by
  obtain ⟨⟨A1, n1, c1⟩, ⟨A2, n2, c2⟩⟩ := s
  obtain ⟨⟨A4, n4, c4⟩, ⟨A5, n5, c5⟩⟩ := s2
  obtain ⟨A6, n6, c6⟩ := s3
  obtain rfl : n5 = r.tasks.length := RdL.at1 (s := ⟨A5, n5, c5⟩) h'.2
  obtain rfl : n6 = es.length := RdL.at1 (s := ⟨A6, n6, c6⟩) (ent_rdL h3)
  have h2 : RdL taskD w w.heap.size (.slice A5 r.tasks.length c5) r.tasks := h'.2
  have h3 : RdL entryD w w.heap.size (.slice A6 es.length c6) es := ent_rdL h3
  clear h'
  have X := (DBox.new 34 [.int .i64 y.now, .int .i64 y.seq, .slice A1 n1 c1, .slice A2 n2 c2] w (b := w.heap.size) rfl).below ((Below.refl _ _).alloc (Nat.le_refl _) (.cells #[.int .i64 r.id, .int .i64 r.plan.prio, .int .i64 r.plan.most, .int .i64 r.plan.wait, .int .i64 r.plan.tasks, .slice A4 n4 c4, .int .i64 r.state, .slice A5 r.tasks.length c5] 84))
  have R := DBox.new 84 [.int .i64 r.id, .int .i64 r.plan.prio, .int .i64 r.plan.most, .int .i64 r.plan.wait, .int .i64 r.plan.tasks, .slice A4 n4 c4, .int .i64 r.state, .slice A5 r.tasks.length c5] (w.alloc (.cells #[.int .i64 y.now, .int .i64 y.seq, .slice A1 n1 c1, .slice A2 n2 c2] 34)) (b := w.heap.size + 1) (by simp)
  have B0 : Below w.heap.size w ((w.alloc (.cells #[.int .i64 y.now, .int .i64 y.seq, .slice A1 n1 c1, .slice A2 n2 c2] 34)).alloc (.cells #[.int .i64 r.id, .int .i64 r.plan.prio, .int .i64 r.plan.most, .int .i64 r.plan.wait, .int .i64 r.plan.tasks, .slice A4 n4 c4, .int .i64 r.state, .slice A5 r.tasks.length c5] 84)) := by repeat (first | exact Below.refl _ _ | refine Below.alloc ?_ (by simp <;> omega) _)
  go_enter Tryz.func53, Tryz.ntmps53
  go_wp2
  generalize ((w.alloc (.cells #[.int .i64 y.now, .int .i64 y.seq, .slice A1 n1 c1, .slice A2 n2 c2] 34)).alloc (.cells #[.int .i64 r.id, .int .i64 r.plan.prio, .int .i64 r.plan.most, .int .i64 r.plan.wait, .int .i64 r.plan.tasks, .slice A4 n4 c4, .int .i64 r.state, .slice A5 r.tasks.length c5] 84)) = W at *
  go_loopw [7] (fun i wr => ∃ k : Nat, k ≤ r.tasks.length ∧ i = .int .i64 k ∧ Hid (∀ t, t < k → laidP y.now r es t) ∧ Below W.heap.size W wr) (fun i _ => r.tasks.length - (intOf i).toNat)
  case atStart => exact ⟨0, Nat.zero_le _, rfl, fun t ht => absurd ht (by omega), Below.refl _ _⟩
  case round =>
    obtain ⟨t, hk, rfl, hok, hb⟩ := hrel
    by_cases hlt : t < r.tasks.length
    · have hltI : (t : Int) < (r.tasks.length : Int) := by omega
      have R1 := R.below hb
      have hx0 : wr.cell? ⟨w.heap.size + 1, 7, none⟩ = some (.slice A5 r.tasks.length c5) := R1.cell 7 _ rfl
      have hx1 := R1.lt
      go_wp2
      clear hx0 hx1 R1
      go_loopw [8, 9] (fun n i wq => ∃ j : Nat, j ≤ es.length ∧ i = .int .i64 j ∧ n = .int .i64 (mineN r.id t (es.take j) : Nat) ∧ Hid (r.tasks[t].state = 2 → priosOk r t es j) ∧ Below W.heap.size W wq) (fun _ i _ => es.length - (intOf i).toNat)
      case atStart => exact ⟨0, Nat.zero_le _, rfl, rfl, fun _ j hj h0 => absurd h0 (by omega), hb⟩
      case round =>
        clear hb
        obtain ⟨j, hj, rfl, rfl, hpo, hb⟩ := hrel
        have hmn := mineN_le r.id t (es.take j)
        rw [List.length_take] at hmn
        have X := X.below hb
        have R := R.below hb
        have X_0 := X.cell 0 _ rfl
        have X_1 := X.cell 1 _ rfl
        have X_2 := X.cell 2 _ rfl
        have X_3 := X.cell 3 _ rfl
        have X_l := X.lt
        have R_0 := R.cell 0 _ rfl
        have R_1 := R.cell 1 _ rfl
        have R_2 := R.cell 2 _ rfl
        have R_3 := R.cell 3 _ rfl
        have R_4 := R.cell 4 _ rfl
        have R_5 := R.cell 5 _ rfl
        have R_6 := R.cell 6 _ rfl
        have R_7 := R.cell 7 _ rfl
        have R_l := R.lt
        have B1 := bnext B0 hb
        obtain ⟨b, o, _, hA5, hbb, _, d0, d1, d2, d3⟩ := (h2.below B1).task hlt
        subst hA5
        have hs1 : b < wr.heap.size := Nat.lt_of_lt_of_le hbb B1.size
        have hlc := later_cell wr
        by_cases hjt : j < es.length
        · have hjI : (j : Int) < (es.length : Int) := by omega
          obtain ⟨b6, o6, _, hA6, hbb6, _, f0, f1, f2, f3⟩ := (h3.below B1).entry hjt
          subst hA6
          have hs6 : b6 < wr.heap.size := Nat.lt_of_lt_of_le hbb6 B1.size
          have HM : Hid (mineE r.id t es[j] = ((es[j].run == r.id) && (es[j].task == (t : Int)))) := rfl
          have HY := Lib.hid (mineN_yes (id := r.id) (t := t) hjt)
          have HN := Lib.hid (mineN_no (id := r.id) (t := t) hjt)
          cases q1 : (es[j].run == r.id)
          · have hm : mineE r.id t es[j] = false := by rw [HM.out, q1]; rfl
            have S := Lib.hid (HN.out hm)
            have S2 : Hid (r.tasks[t].state = 2 → priosOk r t es (j + 1)) := fun h2 => prios_step (hpo.out h2) hjt (fun hh => by rw [hm] at hh; cases hh)
            clear hm
            go_wp2
            go_quiet (fail)
            go_wp2
            first
              | exact ⟨⟨j + 1, by omega, by go_num, by rw [S.out], S2, bdrewN hb _⟩, by simp [intOf]; omega⟩
              | (refine ⟨?_, by simp [intOf]; omega⟩; (repeat apply Exists.intro); first | exact ⟨⟨j + 1, by omega, by go_num, by rw [S.out], S2, bdrewN hb _⟩, rfl⟩ | exact ⟨⟨j + 1, by omega, by go_num, by rw [S.out], S2, bdrewN hb _⟩, rfl, rfl⟩ | exact ⟨⟨j + 1, by omega, by go_num, by rw [S.out], S2, bdrewN hb _⟩, rfl, rfl, rfl⟩ | exact ⟨⟨j + 1, by omega, by go_num, by rw [S.out], S2, bdrewN hb _⟩, rfl, rfl, rfl, rfl⟩ | exact ⟨⟨j + 1, by omega, by go_num, by rw [S.out], S2, bdrewN hb _⟩, rfl, rfl, rfl, rfl, rfl⟩ | exact ⟨⟨j + 1, by omega, by go_num, by rw [S.out], S2, bdrewN hb _⟩, rfl, rfl, rfl, rfl, rfl, rfl⟩ | exact ⟨⟨j + 1, by omega, by go_num, by rw [S.out], S2, bdrewN hb _⟩, rfl, rfl, rfl, rfl, rfl, rfl, rfl⟩ | exact ⟨⟨j + 1, by omega, by go_num, by rw [S.out], S2, bdrewN hb _⟩, rfl, rfl, rfl, rfl, rfl, rfl, rfl, rfl⟩ | exact ⟨⟨j + 1, by omega, by go_num, by rw [S.out], S2, bdrewN hb _⟩, rfl, rfl, rfl, rfl, rfl, rfl, rfl, rfl, rfl⟩ | exact ⟨⟨j + 1, by omega, by go_num, by rw [S.out], S2, bdrewN hb _⟩, rfl, rfl, rfl, rfl, rfl, rfl, rfl, rfl, rfl, rfl⟩ | exact ⟨⟨j + 1, by omega, by go_num, by rw [S.out], S2, bdrewN hb _⟩, rfl, rfl, rfl, rfl, rfl, rfl, rfl, rfl, rfl, rfl, rfl⟩ | exact ⟨⟨j + 1, by omega, by go_num, by rw [S.out], S2, bdrewN hb _⟩, rfl, rfl, rfl, rfl, rfl, rfl, rfl, rfl, rfl, rfl, rfl, rfl⟩ | exact ⟨⟨j + 1, by omega, by go_num, by rw [S.out], S2, bdrewN hb _⟩, rfl, rfl, rfl, rfl, rfl, rfl, rfl, rfl, rfl, rfl, rfl, rfl, rfl⟩ | exact ⟨⟨j + 1, by omega, by go_num, by rw [S.out], S2, bdrewN hb _⟩, rfl, rfl, rfl, rfl, rfl, rfl, rfl, rfl, rfl, rfl, rfl, rfl, rfl, rfl⟩ | exact ⟨⟨j + 1, by omega, by go_num, by rw [S.out], S2, bdrewN hb _⟩, rfl, rfl, rfl, rfl, rfl, rfl, rfl, rfl, rfl, rfl, rfl, rfl, rfl, rfl, rfl⟩)
          cases q2 : (es[j].task == (t : Int))
          · have hm : mineE r.id t es[j] = false := by rw [HM.out, q1, q2]; rfl
            have S := Lib.hid (HN.out hm)
            have S2 : Hid (r.tasks[t].state = 2 → priosOk r t es (j + 1)) := fun h2 => prios_step (hpo.out h2) hjt (fun hh => by rw [hm] at hh; cases hh)
            clear hm
            go_wp2
            go_quiet (fail)
            go_wp2
            first
              | exact ⟨⟨j + 1, by omega, by go_num, by rw [S.out], S2, bdrewN hb _⟩, by simp [intOf]; omega⟩
              | (refine ⟨?_, by simp [intOf]; omega⟩; (repeat apply Exists.intro); first | exact ⟨⟨j + 1, by omega, by go_num, by rw [S.out], S2, bdrewN hb _⟩, rfl⟩ | exact ⟨⟨j + 1, by omega, by go_num, by rw [S.out], S2, bdrewN hb _⟩, rfl, rfl⟩ | exact ⟨⟨j + 1, by omega, by go_num, by rw [S.out], S2, bdrewN hb _⟩, rfl, rfl, rfl⟩ | exact ⟨⟨j + 1, by omega, by go_num, by rw [S.out], S2, bdrewN hb _⟩, rfl, rfl, rfl, rfl⟩ | exact ⟨⟨j + 1, by omega, by go_num, by rw [S.out], S2, bdrewN hb _⟩, rfl, rfl, rfl, rfl, rfl⟩ | exact ⟨⟨j + 1, by omega, by go_num, by rw [S.out], S2, bdrewN hb _⟩, rfl, rfl, rfl, rfl, rfl, rfl⟩ | exact ⟨⟨j + 1, by omega, by go_num, by rw [S.out], S2, bdrewN hb _⟩, rfl, rfl, rfl, rfl, rfl, rfl, rfl⟩ | exact ⟨⟨j + 1, by omega, by go_num, by rw [S.out], S2, bdrewN hb _⟩, rfl, rfl, rfl, rfl, rfl, rfl, rfl, rfl⟩ | exact ⟨⟨j + 1, by omega, by go_num, by rw [S.out], S2, bdrewN hb _⟩, rfl, rfl, rfl, rfl, rfl, rfl, rfl, rfl, rfl⟩ | exact ⟨⟨j + 1, by omega, by go_num, by rw [S.out], S2, bdrewN hb _⟩, rfl, rfl, rfl, rfl, rfl, rfl, rfl, rfl, rfl, rfl⟩ | exact ⟨⟨j + 1, by omega, by go_num, by rw [S.out], S2, bdrewN hb _⟩, rfl, rfl, rfl, rfl, rfl, rfl, rfl, rfl, rfl, rfl, rfl⟩ | exact ⟨⟨j + 1, by omega, by go_num, by rw [S.out], S2, bdrewN hb _⟩, rfl, rfl, rfl, rfl, rfl, rfl, rfl, rfl, rfl, rfl, rfl, rfl⟩ | exact ⟨⟨j + 1, by omega, by go_num, by rw [S.out], S2, bdrewN hb _⟩, rfl, rfl, rfl, rfl, rfl, rfl, rfl, rfl, rfl, rfl, rfl, rfl, rfl⟩ | exact ⟨⟨j + 1, by omega, by go_num, by rw [S.out], S2, bdrewN hb _⟩, rfl, rfl, rfl, rfl, rfl, rfl, rfl, rfl, rfl, rfl, rfl, rfl, rfl, rfl⟩ | exact ⟨⟨j + 1, by omega, by go_num, by rw [S.out], S2, bdrewN hb _⟩, rfl, rfl, rfl, rfl, rfl, rfl, rfl, rfl, rfl, rfl, rfl, rfl, rfl, rfl, rfl⟩)
          have hm : mineE r.id t es[j] = true := by rw [HM.out, q1, q2]; rfl
          have S := Lib.hid (HY.out hm)
          have HM2 := Lib.hid hm
          clear hm
          by_cases q3 : r.tasks[t].state = 2
          · have q3' : (r.tasks[t].state == 2) = true := beq_iff_eq.2 q3
            by_cases q4 : es[j].prio = r.plan.prio
            · have q4' : (es[j].prio != r.plan.prio) = false := by simp [q4]
              have S2 : Hid (r.tasks[t].state = 2 → priosOk r t es (j + 1)) := fun h2 => prios_step (hpo.out h2) hjt (fun _ => q4)
              clear q3 q4
              go_wp2
              go_quiet (fail)
              go_wp2
              go_quiet (fail)
              go_wp2
              first
                | exact ⟨⟨j + 1, by omega, by go_num, by rw [S.out]; go_num, S2, by first | exact bdrewN hb _ | exact bdrewN (bdrewN hb _) _⟩, by simp [intOf]; omega⟩
                | (refine ⟨?_, by simp [intOf]; omega⟩; (repeat apply Exists.intro); first | exact ⟨⟨j + 1, by omega, by go_num, by rw [S.out]; go_num, S2, by first | exact bdrewN hb _ | exact bdrewN (bdrewN hb _) _⟩, rfl⟩ | exact ⟨⟨j + 1, by omega, by go_num, by rw [S.out]; go_num, S2, by first | exact bdrewN hb _ | exact bdrewN (bdrewN hb _) _⟩, rfl, rfl⟩ | exact ⟨⟨j + 1, by omega, by go_num, by rw [S.out]; go_num, S2, by first | exact bdrewN hb _ | exact bdrewN (bdrewN hb _) _⟩, rfl, rfl, rfl⟩ | exact ⟨⟨j + 1, by omega, by go_num, by rw [S.out]; go_num, S2, by first | exact bdrewN hb _ | exact bdrewN (bdrewN hb _) _⟩, rfl, rfl, rfl, rfl⟩ | exact ⟨⟨j + 1, by omega, by go_num, by rw [S.out]; go_num, S2, by first | exact bdrewN hb _ | exact bdrewN (bdrewN hb _) _⟩, rfl, rfl, rfl, rfl, rfl⟩ | exact ⟨⟨j + 1, by omega, by go_num, by rw [S.out]; go_num, S2, by first | exact bdrewN hb _ | exact bdrewN (bdrewN hb _) _⟩, rfl, rfl, rfl, rfl, rfl, rfl⟩ | exact ⟨⟨j + 1, by omega, by go_num, by rw [S.out]; go_num, S2, by first | exact bdrewN hb _ | exact bdrewN (bdrewN hb _) _⟩, rfl, rfl, rfl, rfl, rfl, rfl, rfl⟩ | exact ⟨⟨j + 1, by omega, by go_num, by rw [S.out]; go_num, S2, by first | exact bdrewN hb _ | exact bdrewN (bdrewN hb _) _⟩, rfl, rfl, rfl, rfl, rfl, rfl, rfl, rfl⟩ | exact ⟨⟨j + 1, by omega, by go_num, by rw [S.out]; go_num, S2, by first | exact bdrewN hb _ | exact bdrewN (bdrewN hb _) _⟩, rfl, rfl, rfl, rfl, rfl, rfl, rfl, rfl, rfl⟩ | exact ⟨⟨j + 1, by omega, by go_num, by rw [S.out]; go_num, S2, by first | exact bdrewN hb _ | exact bdrewN (bdrewN hb _) _⟩, rfl, rfl, rfl, rfl, rfl, rfl, rfl, rfl, rfl, rfl⟩ | exact ⟨⟨j + 1, by omega, by go_num, by rw [S.out]; go_num, S2, by first | exact bdrewN hb _ | exact bdrewN (bdrewN hb _) _⟩, rfl, rfl, rfl, rfl, rfl, rfl, rfl, rfl, rfl, rfl, rfl⟩ | exact ⟨⟨j + 1, by omega, by go_num, by rw [S.out]; go_num, S2, by first | exact bdrewN hb _ | exact bdrewN (bdrewN hb _) _⟩, rfl, rfl, rfl, rfl, rfl, rfl, rfl, rfl, rfl, rfl, rfl, rfl⟩ | exact ⟨⟨j + 1, by omega, by go_num, by rw [S.out]; go_num, S2, by first | exact bdrewN hb _ | exact bdrewN (bdrewN hb _) _⟩, rfl, rfl, rfl, rfl, rfl, rfl, rfl, rfl, rfl, rfl, rfl, rfl, rfl⟩ | exact ⟨⟨j + 1, by omega, by go_num, by rw [S.out]; go_num, S2, by first | exact bdrewN hb _ | exact bdrewN (bdrewN hb _) _⟩, rfl, rfl, rfl, rfl, rfl, rfl, rfl, rfl, rfl, rfl, rfl, rfl, rfl, rfl⟩ | exact ⟨⟨j + 1, by omega, by go_num, by rw [S.out]; go_num, S2, by first | exact bdrewN hb _ | exact bdrewN (bdrewN hb _) _⟩, rfl, rfl, rfl, rfl, rfl, rfl, rfl, rfl, rfl, rfl, rfl, rfl, rfl, rfl, rfl⟩)
            · have q4' : (es[j].prio != r.plan.prio) = true := by simp [q4]
              have H := Lib.hid (tf_false (stand_bad1 (now := y.now) hlt q3 hjt HM2.out q4))
              clear q3 q4
              go_wp2
              go_quiet (fail)
              go_wp2
              go_quiet (fail)
              go_wp2
              go_ret
              exact ⟨ret_bool H.out.symm, by first | exact bdrewN B1 _ | exact bdrewN (bdrewN B1 _) _⟩
          · have q3' : (r.tasks[t].state == 2) = false := beq_eq_false_iff_ne.2 q3
            have S2 : Hid (r.tasks[t].state = 2 → priosOk r t es (j + 1)) := fun h2 => absurd h2 q3
            clear q3
            go_wp2
            go_quiet (fail)
            go_wp2
            go_quiet (fail)
            go_wp2
            first
              | exact ⟨⟨j + 1, by omega, by go_num, by rw [S.out]; go_num, S2, by first | exact bdrewN hb _ | exact bdrewN (bdrewN hb _) _⟩, by simp [intOf]; omega⟩
              | (refine ⟨?_, by simp [intOf]; omega⟩; (repeat apply Exists.intro); first | exact ⟨⟨j + 1, by omega, by go_num, by rw [S.out]; go_num, S2, by first | exact bdrewN hb _ | exact bdrewN (bdrewN hb _) _⟩, rfl⟩ | exact ⟨⟨j + 1, by omega, by go_num, by rw [S.out]; go_num, S2, by first | exact bdrewN hb _ | exact bdrewN (bdrewN hb _) _⟩, rfl, rfl⟩ | exact ⟨⟨j + 1, by omega, by go_num, by rw [S.out]; go_num, S2, by first | exact bdrewN hb _ | exact bdrewN (bdrewN hb _) _⟩, rfl, rfl, rfl⟩ | exact ⟨⟨j + 1, by omega, by go_num, by rw [S.out]; go_num, S2, by first | exact bdrewN hb _ | exact bdrewN (bdrewN hb _) _⟩, rfl, rfl, rfl, rfl⟩ | exact ⟨⟨j + 1, by omega, by go_num, by rw [S.out]; go_num, S2, by first | exact bdrewN hb _ | exact bdrewN (bdrewN hb _) _⟩, rfl, rfl, rfl, rfl, rfl⟩ | exact ⟨⟨j + 1, by omega, by go_num, by rw [S.out]; go_num, S2, by first | exact bdrewN hb _ | exact bdrewN (bdrewN hb _) _⟩, rfl, rfl, rfl, rfl, rfl, rfl⟩ | exact ⟨⟨j + 1, by omega, by go_num, by rw [S.out]; go_num, S2, by first | exact bdrewN hb _ | exact bdrewN (bdrewN hb _) _⟩, rfl, rfl, rfl, rfl, rfl, rfl, rfl⟩ | exact ⟨⟨j + 1, by omega, by go_num, by rw [S.out]; go_num, S2, by first | exact bdrewN hb _ | exact bdrewN (bdrewN hb _) _⟩, rfl, rfl, rfl, rfl, rfl, rfl, rfl, rfl⟩ | exact ⟨⟨j + 1, by omega, by go_num, by rw [S.out]; go_num, S2, by first | exact bdrewN hb _ | exact bdrewN (bdrewN hb _) _⟩, rfl, rfl, rfl, rfl, rfl, rfl, rfl, rfl, rfl⟩ | exact ⟨⟨j + 1, by omega, by go_num, by rw [S.out]; go_num, S2, by first | exact bdrewN hb _ | exact bdrewN (bdrewN hb _) _⟩, rfl, rfl, rfl, rfl, rfl, rfl, rfl, rfl, rfl, rfl⟩ | exact ⟨⟨j + 1, by omega, by go_num, by rw [S.out]; go_num, S2, by first | exact bdrewN hb _ | exact bdrewN (bdrewN hb _) _⟩, rfl, rfl, rfl, rfl, rfl, rfl, rfl, rfl, rfl, rfl, rfl⟩ | exact ⟨⟨j + 1, by omega, by go_num, by rw [S.out]; go_num, S2, by first | exact bdrewN hb _ | exact bdrewN (bdrewN hb _) _⟩, rfl, rfl, rfl, rfl, rfl, rfl, rfl, rfl, rfl, rfl, rfl, rfl⟩ | exact ⟨⟨j + 1, by omega, by go_num, by rw [S.out]; go_num, S2, by first | exact bdrewN hb _ | exact bdrewN (bdrewN hb _) _⟩, rfl, rfl, rfl, rfl, rfl, rfl, rfl, rfl, rfl, rfl, rfl, rfl, rfl⟩ | exact ⟨⟨j + 1, by omega, by go_num, by rw [S.out]; go_num, S2, by first | exact bdrewN hb _ | exact bdrewN (bdrewN hb _) _⟩, rfl, rfl, rfl, rfl, rfl, rfl, rfl, rfl, rfl, rfl, rfl, rfl, rfl, rfl⟩ | exact ⟨⟨j + 1, by omega, by go_num, by rw [S.out]; go_num, S2, by first | exact bdrewN hb _ | exact bdrewN (bdrewN hb _) _⟩, rfl, rfl, rfl, rfl, rfl, rfl, rfl, rfl, rfl, rfl, rfl, rfl, rfl, rfl, rfl⟩)
        · have hjI : ¬ (j : Int) < (es.length : Int) := by omega
          have hj' : j = es.length := by omega
          subst hj'
          rw [List.take_length] at *
          have HP : Hid (r.tasks[t].state = 2 → ∀ j (hj : j < es.length), mineE r.id t es[j] = true → es[j].prio = r.plan.prio) := fun h2 j hj hm => hpo.out h2 j hj hj hm
          have step : laidP y.now r es t → Hid (∀ t', t' < t + 1 → laidP y.now r es t') := fun hx t' ht' => by
            by_cases e : t' = t
            · subst e; exact hx
            · exact hok.out t' (by omega)
          have w1' : IntKind.i64.wrap (y.now + 1) = y.now + 1 := IntWalk.i64_in _ (by omega)
          have w2' : IntKind.i64.wrap (y.now + r.plan.wait) = y.now + r.plan.wait := IntWalk.i64_in _ (by omega)
          generalize hM : (mineN r.id t es : Int) = M at *
          by_cases q3 : r.tasks[t].state = 2
          · have q3' : (r.tasks[t].state == 2) = true := beq_iff_eq.2 q3
            have q5' : (r.tasks[t].state == 3) = false := beq_eq_false_iff_ne.2 (by omega)
            by_cases q4 : M = 1
            · have S := step (laid_ok hlt (fun h => ⟨HP.out h, by omega⟩) (fun h => by omega))
              have q4' : (M != 1) = false := by simp [q4]
              clear q3 q4 step hM
              go_wp2
              refine wp_region_pure (by kernel_rfl) (by kernel_rfl) ?_
              repeat (go_big_quiet_step ((go_at_call 26; exact pure_same (fun u => l01In_any _ _ _ u.1))))
              refine wpQuiet_nil ?_
              rintro _ ⟨⟨w2, b2⟩, rfl⟩
              clear hlc
              go_wp2
              first
                | exact ⟨⟨t + 1, by omega, by go_num, S, bnext hb b2⟩, by simp [intOf]; omega⟩
                | (refine ⟨?_, by simp [intOf]; omega⟩; (repeat apply Exists.intro); first | exact ⟨⟨t + 1, by omega, by go_num, S, bnext hb b2⟩, rfl⟩ | exact ⟨⟨t + 1, by omega, by go_num, S, bnext hb b2⟩, rfl, rfl⟩ | exact ⟨⟨t + 1, by omega, by go_num, S, bnext hb b2⟩, rfl, rfl, rfl⟩ | exact ⟨⟨t + 1, by omega, by go_num, S, bnext hb b2⟩, rfl, rfl, rfl, rfl⟩ | exact ⟨⟨t + 1, by omega, by go_num, S, bnext hb b2⟩, rfl, rfl, rfl, rfl, rfl⟩ | exact ⟨⟨t + 1, by omega, by go_num, S, bnext hb b2⟩, rfl, rfl, rfl, rfl, rfl, rfl⟩ | exact ⟨⟨t + 1, by omega, by go_num, S, bnext hb b2⟩, rfl, rfl, rfl, rfl, rfl, rfl, rfl⟩ | exact ⟨⟨t + 1, by omega, by go_num, S, bnext hb b2⟩, rfl, rfl, rfl, rfl, rfl, rfl, rfl, rfl⟩ | exact ⟨⟨t + 1, by omega, by go_num, S, bnext hb b2⟩, rfl, rfl, rfl, rfl, rfl, rfl, rfl, rfl, rfl⟩ | exact ⟨⟨t + 1, by omega, by go_num, S, bnext hb b2⟩, rfl, rfl, rfl, rfl, rfl, rfl, rfl, rfl, rfl, rfl⟩ | exact ⟨⟨t + 1, by omega, by go_num, S, bnext hb b2⟩, rfl, rfl, rfl, rfl, rfl, rfl, rfl, rfl, rfl, rfl, rfl⟩ | exact ⟨⟨t + 1, by omega, by go_num, S, bnext hb b2⟩, rfl, rfl, rfl, rfl, rfl, rfl, rfl, rfl, rfl, rfl, rfl, rfl⟩ | exact ⟨⟨t + 1, by omega, by go_num, S, bnext hb b2⟩, rfl, rfl, rfl, rfl, rfl, rfl, rfl, rfl, rfl, rfl, rfl, rfl, rfl⟩ | exact ⟨⟨t + 1, by omega, by go_num, S, bnext hb b2⟩, rfl, rfl, rfl, rfl, rfl, rfl, rfl, rfl, rfl, rfl, rfl, rfl, rfl, rfl⟩ | exact ⟨⟨t + 1, by omega, by go_num, S, bnext hb b2⟩, rfl, rfl, rfl, rfl, rfl, rfl, rfl, rfl, rfl, rfl, rfl, rfl, rfl, rfl, rfl⟩)
            · have H := Lib.hid (tf_false (stand_bad2 (now := y.now) hlt q3 (show ¬ mineN r.id t es = 1 by omega)))
              have q4' : (M != 1) = true := by simp [q4]
              clear q3 q4 step hM
              go_wp2
              refine wp_region_pure (by kernel_rfl) (by kernel_rfl) ?_
              repeat (go_big_quiet_step ((go_at_call 26; exact pure_same (fun u => l01In_any _ _ _ u.1))))
              refine wpQuiet_nil ?_
              rintro _ ⟨⟨w2, b2⟩, rfl⟩
              clear hlc
              go_wp2
              go_ret
              exact ⟨ret_bool H.out.symm, bnext B1 b2⟩
          · have q3' : (r.tasks[t].state == 2) = false := beq_eq_false_iff_ne.2 q3
            clear hM
            by_cases q5 : r.tasks[t].state = 3
            · have q5' : (r.tasks[t].state == 3) = true := beq_iff_eq.2 q5
              cases q6 : inB r.tasks[t].until_ (y.now + 1) (y.now + r.plan.wait)
              · have H := Lib.hid (tf_false (stand_bad3 (es := es) hlt q5 q6))
                clear q3 q5 step
                go_wp2
                refine wp_region_pure (by kernel_rfl) (by kernel_rfl) ?_
                repeat (go_big_quiet_step ((go_at_call 26; exact pure_same (fun u => l01In_any _ _ _ u.1))))
                refine wpQuiet_nil ?_
                rintro _ ⟨⟨w2, b2⟩, rfl⟩
                clear hlc
                go_wp2
                go_ret
                exact ⟨ret_bool H.out.symm, bnext B1 b2⟩
              · have S := step (laid_ok hlt (fun h => absurd h q3) (fun _ => q6))
                clear q3 q5 step
                go_wp2
                refine wp_region_pure (by kernel_rfl) (by kernel_rfl) ?_
                repeat (go_big_quiet_step ((go_at_call 26; exact pure_same (fun u => l01In_any _ _ _ u.1))))
                refine wpQuiet_nil ?_
                rintro _ ⟨⟨w2, b2⟩, rfl⟩
                clear hlc
                go_wp2
                first
                  | exact ⟨⟨t + 1, by omega, by go_num, S, bnext hb b2⟩, by simp [intOf]; omega⟩
                  | (refine ⟨?_, by simp [intOf]; omega⟩; (repeat apply Exists.intro); first | exact ⟨⟨t + 1, by omega, by go_num, S, bnext hb b2⟩, rfl⟩ | exact ⟨⟨t + 1, by omega, by go_num, S, bnext hb b2⟩, rfl, rfl⟩ | exact ⟨⟨t + 1, by omega, by go_num, S, bnext hb b2⟩, rfl, rfl, rfl⟩ | exact ⟨⟨t + 1, by omega, by go_num, S, bnext hb b2⟩, rfl, rfl, rfl, rfl⟩ | exact ⟨⟨t + 1, by omega, by go_num, S, bnext hb b2⟩, rfl, rfl, rfl, rfl, rfl⟩ | exact ⟨⟨t + 1, by omega, by go_num, S, bnext hb b2⟩, rfl, rfl, rfl, rfl, rfl, rfl⟩ | exact ⟨⟨t + 1, by omega, by go_num, S, bnext hb b2⟩, rfl, rfl, rfl, rfl, rfl, rfl, rfl⟩ | exact ⟨⟨t + 1, by omega, by go_num, S, bnext hb b2⟩, rfl, rfl, rfl, rfl, rfl, rfl, rfl, rfl⟩ | exact ⟨⟨t + 1, by omega, by go_num, S, bnext hb b2⟩, rfl, rfl, rfl, rfl, rfl, rfl, rfl, rfl, rfl⟩ | exact ⟨⟨t + 1, by omega, by go_num, S, bnext hb b2⟩, rfl, rfl, rfl, rfl, rfl, rfl, rfl, rfl, rfl, rfl⟩ | exact ⟨⟨t + 1, by omega, by go_num, S, bnext hb b2⟩, rfl, rfl, rfl, rfl, rfl, rfl, rfl, rfl, rfl, rfl, rfl⟩ | exact ⟨⟨t + 1, by omega, by go_num, S, bnext hb b2⟩, rfl, rfl, rfl, rfl, rfl, rfl, rfl, rfl, rfl, rfl, rfl, rfl⟩ | exact ⟨⟨t + 1, by omega, by go_num, S, bnext hb b2⟩, rfl, rfl, rfl, rfl, rfl, rfl, rfl, rfl, rfl, rfl, rfl, rfl, rfl⟩ | exact ⟨⟨t + 1, by omega, by go_num, S, bnext hb b2⟩, rfl, rfl, rfl, rfl, rfl, rfl, rfl, rfl, rfl, rfl, rfl, rfl, rfl, rfl⟩ | exact ⟨⟨t + 1, by omega, by go_num, S, bnext hb b2⟩, rfl, rfl, rfl, rfl, rfl, rfl, rfl, rfl, rfl, rfl, rfl, rfl, rfl, rfl, rfl⟩)
            · have q5' : (r.tasks[t].state == 3) = false := beq_eq_false_iff_ne.2 q5
              have S := step (laid_ok hlt (fun h => absurd h q3) (fun h => absurd h q5))
              clear q3 q5 step
              go_wp2
              refine wp_region_pure (by kernel_rfl) (by kernel_rfl) ?_
              repeat (go_big_quiet_step ((go_at_call 26; exact pure_same (fun u => l01In_any _ _ _ u.1))))
              refine wpQuiet_nil ?_
              rintro _ ⟨⟨w2, b2⟩, rfl⟩
              clear hlc
              go_wp2
              first
                | exact ⟨⟨t + 1, by omega, by go_num, S, bnext hb b2⟩, by simp [intOf]; omega⟩
                | (refine ⟨?_, by simp [intOf]; omega⟩; (repeat apply Exists.intro); first | exact ⟨⟨t + 1, by omega, by go_num, S, bnext hb b2⟩, rfl⟩ | exact ⟨⟨t + 1, by omega, by go_num, S, bnext hb b2⟩, rfl, rfl⟩ | exact ⟨⟨t + 1, by omega, by go_num, S, bnext hb b2⟩, rfl, rfl, rfl⟩ | exact ⟨⟨t + 1, by omega, by go_num, S, bnext hb b2⟩, rfl, rfl, rfl, rfl⟩ | exact ⟨⟨t + 1, by omega, by go_num, S, bnext hb b2⟩, rfl, rfl, rfl, rfl, rfl⟩ | exact ⟨⟨t + 1, by omega, by go_num, S, bnext hb b2⟩, rfl, rfl, rfl, rfl, rfl, rfl⟩ | exact ⟨⟨t + 1, by omega, by go_num, S, bnext hb b2⟩, rfl, rfl, rfl, rfl, rfl, rfl, rfl⟩ | exact ⟨⟨t + 1, by omega, by go_num, S, bnext hb b2⟩, rfl, rfl, rfl, rfl, rfl, rfl, rfl, rfl⟩ | exact ⟨⟨t + 1, by omega, by go_num, S, bnext hb b2⟩, rfl, rfl, rfl, rfl, rfl, rfl, rfl, rfl, rfl⟩ | exact ⟨⟨t + 1, by omega, by go_num, S, bnext hb b2⟩, rfl, rfl, rfl, rfl, rfl, rfl, rfl, rfl, rfl, rfl⟩ | exact ⟨⟨t + 1, by omega, by go_num, S, bnext hb b2⟩, rfl, rfl, rfl, rfl, rfl, rfl, rfl, rfl, rfl, rfl, rfl⟩ | exact ⟨⟨t + 1, by omega, by go_num, S, bnext hb b2⟩, rfl, rfl, rfl, rfl, rfl, rfl, rfl, rfl, rfl, rfl, rfl, rfl⟩ | exact ⟨⟨t + 1, by omega, by go_num, S, bnext hb b2⟩, rfl, rfl, rfl, rfl, rfl, rfl, rfl, rfl, rfl, rfl, rfl, rfl, rfl⟩ | exact ⟨⟨t + 1, by omega, by go_num, S, bnext hb b2⟩, rfl, rfl, rfl, rfl, rfl, rfl, rfl, rfl, rfl, rfl, rfl, rfl, rfl, rfl⟩ | exact ⟨⟨t + 1, by omega, by go_num, S, bnext hb b2⟩, rfl, rfl, rfl, rfl, rfl, rfl, rfl, rfl, rfl, rfl, rfl, rfl, rfl, rfl, rfl⟩)
    · have hltI : ¬ (t : Int) < (r.tasks.length : Int) := by omega
      have H := Lib.hid (tf_true (show standP y.now r es from fun t' ht' => hok.out t' (by omega)))
      have R1 := R.below hb
      have hx0 : wr.cell? ⟨w.heap.size + 1, 7, none⟩ = some (.slice A5 r.tasks.length c5) := R1.cell 7 _ rfl
      have hx1 := R1.lt
      go_wp2
      go_ret
      exact ⟨ret_bool H.out.symm, bnext B0 hb⟩
end Go.Proofs.YtjobmbjadpldfaaGreat
end
section
namespace Go.Proofs.YtjobmbjadpldfaaGreat
open Go.RowKit
set_option maxRecDepth 100000
set_option maxHeartbeats 2000000
set_option linter.unusedVariables false
set_option linter.unusedSimpArgs false

theorem entry_ows (w : World) : ∀ l : List Entry, Ows entryD w [] (l.map fun x => (x, ()))
  | [] => .nil
  | x :: l => by
    have := Ows.cons (d := entryD) (w := w) (F := []) (r := (x, ())) rfl (entry_ows w l)
    exact this
theorem entry_ow {w : World} {E : TypeId} {base : Nat} {v : Value} {l : List Entry} (h : Ow entE E w base v l) : ∃ (s : Sl) (F : List Nat), v = .slice s.a s.n s.c ∧ OwL entryD w F s.v l ∧ ∀ b ∈ F, base ≤ b := by
  obtain ⟨h1, h2⟩ := Hw.of_ow h
  obtain ⟨⟨A, c, hv, hc, hA⟩, hF, hf⟩ := id h1
  subst hv
  refine ⟨⟨A, l.length, c⟩, _, rfl, ⟨l.map fun x => (x, ()), blocks (.slice A l.length c) l.length, [], by rw [List.map_map]; exact List.map_id _, ⟨⟨A, c, by rw [List.length_map], by rw [List.length_map]; exact hc, fun hl => ?_⟩, by rw [List.length_map], hf⟩, entry_ows w l, (List.append_nil _).symm, h1.nodup⟩, h2⟩
  rw [List.length_map] at hl
  obtain ⟨b, o, h3, h4, h5⟩ := hA hl
  refine ⟨b, o, h3, h4, fun k hk j u hu => ?_⟩
  rw [List.getElem_map] at hu
  exact h5 k (by rw [List.length_map] at hk; exact hk) j u hu

def tskE : Enc Task := { cells := fun x => [.int .i64 x.state, .int .i64 x.need, .int .i64 x.try_, .int .i64 x.until_], sz := 4, len := fun _ => rfl, one := fun _ u hu => by simp at hu; rcases hu with rfl | rfl | rfl | rfl <;> rfl }
theorem task_rd {w : World} {B : Nat} {v : Value} {l : List Task} (h : RdL taskD w B v l) : Rd tskE w B v l := by
  obtain ⟨rs, rfl, ⟨A, c, rfl, hc, hA⟩, _⟩ := h
  refine ⟨A, c, by rw [List.length_map], by rw [List.length_map]; exact hc, fun hl => ?_⟩
  rw [List.length_map] at hl
  obtain ⟨b, o, h1, h2, h3⟩ := hA hl
  refine ⟨b, o, h1, h2, fun k hk j u hu => ?_⟩
  rw [List.getElem_map] at hu
  exact h3 k (by rw [List.length_map] at hk; exact hk) j u hu
theorem task_ows (w : World) : ∀ l : List Task, Ows taskD w [] (l.map fun x => (x, ()))
  | [] => .nil
  | x :: l => by
    have := Ows.cons (d := taskD) (w := w) (F := []) (r := (x, ())) rfl (task_ows w l)
    exact this
theorem task_ow {w : World} {E : TypeId} {base : Nat} {v : Value} {l : List Task} (h : Ow tskE E w base v l) : ∃ (s : Sl) (F : List Nat), v = .slice s.a s.n s.c ∧ OwL taskD w F s.v l ∧ ∀ b ∈ F, base ≤ b := by
  obtain ⟨h1, h2⟩ := Hw.of_ow h
  obtain ⟨⟨A, c, hv, hc, hA⟩, hF, hf⟩ := id h1
  subst hv
  refine ⟨⟨A, l.length, c⟩, _, rfl, ⟨l.map fun x => (x, ()), blocks (.slice A l.length c) l.length, [], by rw [List.map_map]; exact List.map_id _, ⟨⟨A, c, by rw [List.length_map], by rw [List.length_map]; exact hc, fun hl => ?_⟩, by rw [List.length_map], hf⟩, task_ows w l, (List.append_nil _).symm, h1.nodup⟩, h2⟩
  rw [List.length_map] at hl
  obtain ⟨b, o, h3, h4, h5⟩ := hA hl
  refine ⟨b, o, h3, h4, fun k hk j u hu => ?_⟩
  rw [List.getElem_map] at hu
  exact h5 k (by rw [List.length_map] at hk; exact hk) j u hu

theorem tskE_info : (Tryz.prog.info? 120).map (fun i => (i.zero, i.size, i.bytes)) = some (some (.agg #[.int .i64 0, .int .i64 0, .int .i64 0, .int .i64 0]), 4, 32) := by kernel_rfl
theorem implCopyEntries_own (l : List Entry) (s : Sl) (w : World) (hl : l.length ≤ 2000000) (h : RdL entryD w w.heap.size s.v l) :
    Calls Tryz.prog 69 #[.slice s.a s.n s.c] w (OwnPost (Dt.list entryD) slV l w) := by
  obtain ⟨A, n, c⟩ := s
  obtain rfl : n = l.length := RdL.at1 (s := ⟨A, n, c⟩) h
  obtain ⟨i0, hi0, hz0, hz1, hz2⟩ := info_parts entE_info
  go_enter Tryz.func69, Tryz.ntmps69
  go_wp2_with (at_builtin; refine wpList_push_all _ entE (by decide) rfl (.const (.slice none 0 0)) (.tmp 3) rfl Tryz.underlying85 hi0 hz0 hz1 hz2 rfl (v := .slice none 0 0) (l := []) rfl (Ow.nil entE 96 _ w.heap.size) rfl (ent_rd h) (by simp) (by omega) (by decide) (Nat.le_refl _) ?_; intro v1 w1 o1 g1 _; rw [List.nil_append] at o1)
  obtain ⟨s1, F1, rfl, o2, n2⟩ := entry_ow o1
  go_ret
  exact ⟨s1, F1, rfl, o2, n2, (Below.refl w.heap.size w).grown g1 (Nat.le_refl _) (fun g hg => by cases hg)⟩


theorem implCopyRun_own (r : Run) (s : Sl × Sl) (w : World) (hl : cntRun r ≤ 2000000) (h : runD.rd w w.heap.size r s) :
    Calls Tryz.prog 70 #[runW r s] w (OwnPost runD runW r w) := by
  obtain ⟨⟨A1, n1, c1⟩, ⟨A2, n2, c2⟩⟩ := s
  obtain rfl : n2 = r.tasks.length := RdL.at1 (s := ⟨A2, n2, c2⟩) h.2
  have h1 : planD.rd w w.heap.size r.plan ⟨A1, n1, c1⟩ := h.1
  have h2 : Rd tskE w w.heap.size (.slice A2 r.tasks.length c2) r.tasks := task_rd h.2
  have hl1 : cntPlan r.plan ≤ 2000000 := by unfold cntRun at hl; omega
  have hl2 : r.tasks.length ≤ 2000000 := Nat.le_trans (cntL_len cntTask _) (by unfold cntRun at hl; omega)
  clear h hl
  have X := (DBox.new 84 [.int .i64 r.id, .int .i64 r.plan.prio, .int .i64 r.plan.most, .int .i64 r.plan.wait, .int .i64 r.plan.tasks, .slice A1 n1 c1, .int .i64 r.state, .slice A2 r.tasks.length c2] w (b := w.heap.size) rfl).below ((Below.refl _ _).alloc (Nat.le_refl _) (.cells #[.int .i64 0, .int .i64 0, .int .i64 0, .int .i64 0, .int .i64 0, .slice none 0 0, .int .i64 0, .slice none 0 0] 84))
  have Z := DBox.new 84 [.int .i64 0, .int .i64 0, .int .i64 0, .int .i64 0, .int .i64 0, .slice none 0 0, .int .i64 0, .slice none 0 0] (w.alloc (.cells #[.int .i64 r.id, .int .i64 r.plan.prio, .int .i64 r.plan.most, .int .i64 r.plan.wait, .int .i64 r.plan.tasks, .slice A1 n1 c1, .int .i64 r.state, .slice A2 r.tasks.length c2] 84)) (b := w.heap.size + 1) (by simp)
  have B0 : Below w.heap.size w ((w.alloc (.cells #[.int .i64 r.id, .int .i64 r.plan.prio, .int .i64 r.plan.most, .int .i64 r.plan.wait, .int .i64 r.plan.tasks, .slice A1 n1 c1, .int .i64 r.state, .slice A2 r.tasks.length c2] 84)).alloc (.cells #[.int .i64 0, .int .i64 0, .int .i64 0, .int .i64 0, .int .i64 0, .slice none 0 0, .int .i64 0, .slice none 0 0] 84)) := by repeat (first | exact Below.refl _ _ | refine Below.alloc ?_ (by simp <;> omega) _)
  obtain ⟨i0, hi0, hz0, hz1, hz2⟩ := info_parts tskE_info
  go_enter Tryz.func70, Tryz.ntmps70
  go_wp2_with fail
  generalize ((w.alloc (.cells #[.int .i64 r.id, .int .i64 r.plan.prio, .int .i64 r.plan.most, .int .i64 r.plan.wait, .int .i64 r.plan.tasks, .slice A1 n1 c1, .int .i64 r.state, .slice A2 r.tasks.length c2] 84)).alloc (.cells #[.int .i64 0, .int .i64 0, .int .i64 0, .int .i64 0, .int .i64 0, .slice none 0 0, .int .i64 0, .slice none 0 0] 84)) = W at *
  refine (implCopyPlan_own r.plan ⟨A1, n1, c1⟩ W hl1 (planD.rd_more (planD.rd_below h1 B0) B0.size)).mono ?_
  rintro e w0 ⟨⟨A3, n3, c3⟩, F0, rfl, o0, n0, b0⟩
  have hW : w.heap.size + 2 ≤ W.heap.size := Z.lt
  replace X := X.below b0
  replace Z := Z.below b0
  replace B0 := bnext B0 b0
  have X_0 := X.cell 0 _ rfl
  have X_1 := X.cell 1 _ rfl
  have X_2 := X.cell 2 _ rfl
  have X_3 := X.cell 3 _ rfl
  have X_4 := X.cell 4 _ rfl
  have X_5 := X.cell 5 _ rfl
  have X_6 := X.cell 6 _ rfl
  have X_7 := X.cell 7 _ rfl
  have X_l := X.lt
  have Z_0 := Z.cell 0 _ rfl
  have Z_1 := Z.cell 1 _ rfl
  have Z_2 := Z.cell 2 _ rfl
  have Z_3 := Z.cell 3 _ rfl
  have Z_4 := Z.cell 4 _ rfl
  have Z_5 := Z.cell 5 _ rfl
  have Z_6 := Z.cell 6 _ rfl
  have Z_7 := Z.cell 7 _ rfl
  have Z_l := Z.lt
  have X_f := X.free
  have Z_f := Z.free
  have hnX : w.heap.size ∉ F0 := fun hm => by have := n0 _ hm; omega
  have X1 : DBox w.heap.size [.int .i64 r.id, .int .i64 r.plan.prio, .int .i64 r.plan.most, .int .i64 r.plan.wait, .int .i64 r.plan.tasks, .slice A3 n3 c3, .int .i64 r.state, .slice A2 r.tasks.length c2] (((((w0.setCell ⟨w.heap.size, 1, none⟩ (.int .i64 r.plan.prio)).setCell ⟨w.heap.size, 2, none⟩ (.int .i64 r.plan.most)).setCell ⟨w.heap.size, 3, none⟩ (.int .i64 r.plan.wait)).setCell ⟨w.heap.size, 4, none⟩ (.int .i64 r.plan.tasks)).setCell ⟨w.heap.size, 5, none⟩ (.slice A3 n3 c3)) := ((((X.set 1 (by simp) (.int .i64 r.plan.prio)).set 2 (by simp) (.int .i64 r.plan.most)).set 3 (by simp) (.int .i64 r.plan.wait)).set 4 (by simp) (.int .i64 r.plan.tasks)).set 5 (by simp) (.slice A3 n3 c3)
  have Z1 := ((((Z.setOther (a := ⟨w.heap.size, 1, none⟩) (by simp) (.int .i64 r.plan.prio)).setOther (a := ⟨w.heap.size, 2, none⟩) (by simp) (.int .i64 r.plan.most)).setOther (a := ⟨w.heap.size, 3, none⟩) (by simp) (.int .i64 r.plan.wait)).setOther (a := ⟨w.heap.size, 4, none⟩) (by simp) (.int .i64 r.plan.tasks)).setOther (a := ⟨w.heap.size, 5, none⟩) (by simp) (.slice A3 n3 c3)
  have o1 : planD.ow (((((w0.setCell ⟨w.heap.size, 1, none⟩ (.int .i64 r.plan.prio)).setCell ⟨w.heap.size, 2, none⟩ (.int .i64 r.plan.most)).setCell ⟨w.heap.size, 3, none⟩ (.int .i64 r.plan.wait)).setCell ⟨w.heap.size, 4, none⟩ (.int .i64 r.plan.tasks)).setCell ⟨w.heap.size, 5, none⟩ (.slice A3 n3 c3)) F0 r.plan ⟨A3, n3, c3⟩ := by repeat (first | (with_reducible exact o0) | refine Dt.ow_set planD ?_ hnX _)
  have B1 : Below w.heap.size w (((((w0.setCell ⟨w.heap.size, 1, none⟩ (.int .i64 r.plan.prio)).setCell ⟨w.heap.size, 2, none⟩ (.int .i64 r.plan.most)).setCell ⟨w.heap.size, 3, none⟩ (.int .i64 r.plan.wait)).setCell ⟨w.heap.size, 4, none⟩ (.int .i64 r.plan.tasks)).setCell ⟨w.heap.size, 5, none⟩ (.slice A3 n3 c3)) := by repeat (first | (with_reducible exact B0) | refine Below.setCell ?_ (by simp) _)
  have HZ3 := Lib.hid (show (((((w0.setCell ⟨w.heap.size, 1, none⟩ (.int .i64 r.plan.prio)).setCell ⟨w.heap.size, 2, none⟩ (.int .i64 r.plan.most)).setCell ⟨w.heap.size, 3, none⟩ (.int .i64 r.plan.wait)).setCell ⟨w.heap.size, 4, none⟩ (.int .i64 r.plan.tasks)).setCell ⟨w.heap.size, 5, none⟩ (.slice A3 n3 c3)).heap.size = w0.heap.size by simp)
  go_wp2_with (at_builtin; generalize hW3 : (((((w0.setCell ⟨w.heap.size, 1, none⟩ (.int .i64 r.plan.prio)).setCell ⟨w.heap.size, 2, none⟩ (.int .i64 r.plan.most)).setCell ⟨w.heap.size, 3, none⟩ (.int .i64 r.plan.wait)).setCell ⟨w.heap.size, 4, none⟩ (.int .i64 r.plan.tasks)).setCell ⟨w.heap.size, 5, none⟩ (.slice A3 n3 c3)) = W3 at *; clear hW3 X_0 X_1 X_2 X_3 X_4 X_5 X_6 X_7 X_l X_f Z_0 Z_1 Z_2 Z_3 Z_4 Z_5 Z_6 Z_7 Z_l Z_f X Z o0; have hal := (Below.refl W3.heap.size W3); refine wpList_push_all _ tskE (by decide) rfl (.const (.slice none 0 0)) (.tmp 8) rfl Tryz.underlying82 hi0 hz0 hz1 hz2 rfl (v := (.slice none 0 0)) (l := []) rfl (Ow.nil tskE 120 _ w0.heap.size) rfl ((h2.below (bnext B1 hal)).more (bnext B1 hal).size) (by simp) (by omega) (by decide) (by have := hal.size; have := HZ3.out; omega) ?_; intro v1 w1 o5 g1 f1; rw [List.nil_append] at o5; have B31 : Below W3.heap.size W3 w1 := hal.grown g1 hal.size (fun g hg => by have := HZ3.out; simp [Value.ownBlock] at hg <;> omega); clear f1 g1; obtain ⟨⟨A5, n5, c5⟩, F5, rfl, o6, n6⟩ := task_ow o5; replace X1 := X1.below B31; replace Z1 := Z1.below B31; have y0 := X1.cell 0 _ rfl; have y1 := X1.cell 1 _ rfl; have y2 := X1.cell 2 _ rfl; have y3 := X1.cell 3 _ rfl; have y4 := X1.cell 4 _ rfl; have y5 := X1.cell 5 _ rfl; have y6 := X1.cell 6 _ rfl; have y7 := X1.cell 7 _ rfl; have yf := X1.free; have yl := X1.lt; have z0 := Z1.cell 0 _ rfl; have z1 := Z1.cell 1 _ rfl; have z2 := Z1.cell 2 _ rfl; have z3 := Z1.cell 3 _ rfl; have z4 := Z1.cell 4 _ rfl; have z5 := Z1.cell 5 _ rfl; have z6 := Z1.cell 6 _ rfl; have z7 := Z1.cell 7 _ rfl; have zf := Z1.free; have zl := Z1.lt)
  have B2 := bnext B1 B31
  have o7 := planD.ow_below o1 B31
  have hz3 := HZ3.out
  have hb0 := b0.size
  have l0 : ∀ b ∈ F0, b < w0.heap.size := fun b hb => by have := planD.ow_lt o1 b hb; omega
  refine bodyPost_ret (v := runW r (⟨A3, n3, c3⟩, ⟨A5, n5, c5⟩)) ?_ rfl ?_
  · simp [runW, results, Tryz.results70, go_sem, z0, z1, z2, z3, z4, z5, z6, z7]
  · refine ⟨(⟨A3, n3, c3⟩, ⟨A5, n5, c5⟩), F0 ++ F5, rfl, ⟨F0, F5, rfl, ?_, ?_, ?_⟩, ?_, ?_⟩
    · rw [List.nodup_append]
      refine ⟨planD.ow_nodup o1, o6.nodup, fun u hu u' hu' e => ?_⟩
      have := l0 u hu
      have := n6 u' hu'
      omega
    · have hn2 : w.heap.size + 1 ∉ F0 := fun hm => by have := n0 _ hm; omega
      repeat (first | (with_reducible exact o7) | refine Dt.ow_set planD ?_ (by first | exact hnX | exact hn2) _)
    · have hn1 : w.heap.size ∉ F5 := fun hm => by have := n6 _ hm; omega
      have hn2 : w.heap.size + 1 ∉ F5 := fun hm => by have := n6 _ hm; omega
      show OwL taskD _ F5 (.slice A5 n5 c5) r.tasks
      repeat (first | (with_reducible exact o6) | refine OwL.set ?_ (by first | exact hn1 | exact hn2) _)
    · intro b hb
      rcases List.mem_append.1 hb with hb | hb
      · have := n0 b hb; omega
      · have := n6 b hb; omega
    · repeat (first | (with_reducible exact B2) | refine Below.setCell ?_ (by first | (simp; done) | (simp; omega)) _)


theorem specCopyRun_own (r : Run) (s : Sl × Sl) (w : World) (hl : cntRun r ≤ 2000000) (h : runD.rd w w.heap.size r s) :
    Calls Tryz.prog 66 #[runW r s] w (OwnPost runD runW r w) := by
  obtain ⟨⟨A1, n1, c1⟩, ⟨A2, n2, c2⟩⟩ := s
  obtain rfl : n2 = r.tasks.length := RdL.at1 (s := ⟨A2, n2, c2⟩) h.2
  have h1 : planD.rd w w.heap.size r.plan ⟨A1, n1, c1⟩ := h.1
  have h2 : Rd tskE w w.heap.size (.slice A2 r.tasks.length c2) r.tasks := task_rd h.2
  have hl1 : cntPlan r.plan ≤ 2000000 := by unfold cntRun at hl; omega
  have hl2 : r.tasks.length ≤ 2000000 := Nat.le_trans (cntL_len cntTask _) (by unfold cntRun at hl; omega)
  clear h hl
  have X := (DBox.new 84 [.int .i64 r.id, .int .i64 r.plan.prio, .int .i64 r.plan.most, .int .i64 r.plan.wait, .int .i64 r.plan.tasks, .slice A1 n1 c1, .int .i64 r.state, .slice A2 r.tasks.length c2] w (b := w.heap.size) rfl).below ((Below.refl _ _).alloc (Nat.le_refl _) (.cells #[.int .i64 0, .int .i64 0, .int .i64 0, .int .i64 0, .int .i64 0, .slice none 0 0, .int .i64 0, .slice none 0 0] 84))
  have Z := DBox.new 84 [.int .i64 0, .int .i64 0, .int .i64 0, .int .i64 0, .int .i64 0, .slice none 0 0, .int .i64 0, .slice none 0 0] (w.alloc (.cells #[.int .i64 r.id, .int .i64 r.plan.prio, .int .i64 r.plan.most, .int .i64 r.plan.wait, .int .i64 r.plan.tasks, .slice A1 n1 c1, .int .i64 r.state, .slice A2 r.tasks.length c2] 84)) (b := w.heap.size + 1) (by simp)
  have B0 : Below w.heap.size w ((w.alloc (.cells #[.int .i64 r.id, .int .i64 r.plan.prio, .int .i64 r.plan.most, .int .i64 r.plan.wait, .int .i64 r.plan.tasks, .slice A1 n1 c1, .int .i64 r.state, .slice A2 r.tasks.length c2] 84)).alloc (.cells #[.int .i64 0, .int .i64 0, .int .i64 0, .int .i64 0, .int .i64 0, .slice none 0 0, .int .i64 0, .slice none 0 0] 84)) := by repeat (first | exact Below.refl _ _ | refine Below.alloc ?_ (by simp <;> omega) _)
  obtain ⟨i0, hi0, hz0, hz1, hz2⟩ := info_parts tskE_info
  go_enter Tryz.func66, Tryz.ntmps66
  go_wp2_with fail
  generalize ((w.alloc (.cells #[.int .i64 r.id, .int .i64 r.plan.prio, .int .i64 r.plan.most, .int .i64 r.plan.wait, .int .i64 r.plan.tasks, .slice A1 n1 c1, .int .i64 r.state, .slice A2 r.tasks.length c2] 84)).alloc (.cells #[.int .i64 0, .int .i64 0, .int .i64 0, .int .i64 0, .int .i64 0, .slice none 0 0, .int .i64 0, .slice none 0 0] 84)) = W at *
  refine (specCopyPlan_own r.plan ⟨A1, n1, c1⟩ W hl1 (planD.rd_more (planD.rd_below h1 B0) B0.size)).mono ?_
  rintro e w0 ⟨⟨A3, n3, c3⟩, F0, rfl, o0, n0, b0⟩
  have hW : w.heap.size + 2 ≤ W.heap.size := Z.lt
  replace X := X.below b0
  replace Z := Z.below b0
  replace B0 := bnext B0 b0
  have X_0 := X.cell 0 _ rfl
  have X_1 := X.cell 1 _ rfl
  have X_2 := X.cell 2 _ rfl
  have X_3 := X.cell 3 _ rfl
  have X_4 := X.cell 4 _ rfl
  have X_5 := X.cell 5 _ rfl
  have X_6 := X.cell 6 _ rfl
  have X_7 := X.cell 7 _ rfl
  have X_l := X.lt
  have Z_0 := Z.cell 0 _ rfl
  have Z_1 := Z.cell 1 _ rfl
  have Z_2 := Z.cell 2 _ rfl
  have Z_3 := Z.cell 3 _ rfl
  have Z_4 := Z.cell 4 _ rfl
  have Z_5 := Z.cell 5 _ rfl
  have Z_6 := Z.cell 6 _ rfl
  have Z_7 := Z.cell 7 _ rfl
  have Z_l := Z.lt
  have X_f := X.free
  have Z_f := Z.free
  have hnX : w.heap.size ∉ F0 := fun hm => by have := n0 _ hm; omega
  have X1 : DBox w.heap.size [.int .i64 r.id, .int .i64 r.plan.prio, .int .i64 r.plan.most, .int .i64 r.plan.wait, .int .i64 r.plan.tasks, .slice A3 n3 c3, .int .i64 r.state, .slice A2 r.tasks.length c2] (((((w0.setCell ⟨w.heap.size, 1, none⟩ (.int .i64 r.plan.prio)).setCell ⟨w.heap.size, 2, none⟩ (.int .i64 r.plan.most)).setCell ⟨w.heap.size, 3, none⟩ (.int .i64 r.plan.wait)).setCell ⟨w.heap.size, 4, none⟩ (.int .i64 r.plan.tasks)).setCell ⟨w.heap.size, 5, none⟩ (.slice A3 n3 c3)) := ((((X.set 1 (by simp) (.int .i64 r.plan.prio)).set 2 (by simp) (.int .i64 r.plan.most)).set 3 (by simp) (.int .i64 r.plan.wait)).set 4 (by simp) (.int .i64 r.plan.tasks)).set 5 (by simp) (.slice A3 n3 c3)
  have Z1 := ((((Z.setOther (a := ⟨w.heap.size, 1, none⟩) (by simp) (.int .i64 r.plan.prio)).setOther (a := ⟨w.heap.size, 2, none⟩) (by simp) (.int .i64 r.plan.most)).setOther (a := ⟨w.heap.size, 3, none⟩) (by simp) (.int .i64 r.plan.wait)).setOther (a := ⟨w.heap.size, 4, none⟩) (by simp) (.int .i64 r.plan.tasks)).setOther (a := ⟨w.heap.size, 5, none⟩) (by simp) (.slice A3 n3 c3)
  have o1 : planD.ow (((((w0.setCell ⟨w.heap.size, 1, none⟩ (.int .i64 r.plan.prio)).setCell ⟨w.heap.size, 2, none⟩ (.int .i64 r.plan.most)).setCell ⟨w.heap.size, 3, none⟩ (.int .i64 r.plan.wait)).setCell ⟨w.heap.size, 4, none⟩ (.int .i64 r.plan.tasks)).setCell ⟨w.heap.size, 5, none⟩ (.slice A3 n3 c3)) F0 r.plan ⟨A3, n3, c3⟩ := by repeat (first | (with_reducible exact o0) | refine Dt.ow_set planD ?_ hnX _)
  have B1 : Below w.heap.size w (((((w0.setCell ⟨w.heap.size, 1, none⟩ (.int .i64 r.plan.prio)).setCell ⟨w.heap.size, 2, none⟩ (.int .i64 r.plan.most)).setCell ⟨w.heap.size, 3, none⟩ (.int .i64 r.plan.wait)).setCell ⟨w.heap.size, 4, none⟩ (.int .i64 r.plan.tasks)).setCell ⟨w.heap.size, 5, none⟩ (.slice A3 n3 c3)) := by repeat (first | (with_reducible exact B0) | refine Below.setCell ?_ (by simp) _)
  have HZ3 := Lib.hid (show (((((w0.setCell ⟨w.heap.size, 1, none⟩ (.int .i64 r.plan.prio)).setCell ⟨w.heap.size, 2, none⟩ (.int .i64 r.plan.most)).setCell ⟨w.heap.size, 3, none⟩ (.int .i64 r.plan.wait)).setCell ⟨w.heap.size, 4, none⟩ (.int .i64 r.plan.tasks)).setCell ⟨w.heap.size, 5, none⟩ (.slice A3 n3 c3)).heap.size = w0.heap.size by simp)
  go_wp2_with (at_builtin; generalize hW3 : (((((w0.setCell ⟨w.heap.size, 1, none⟩ (.int .i64 r.plan.prio)).setCell ⟨w.heap.size, 2, none⟩ (.int .i64 r.plan.most)).setCell ⟨w.heap.size, 3, none⟩ (.int .i64 r.plan.wait)).setCell ⟨w.heap.size, 4, none⟩ (.int .i64 r.plan.tasks)).setCell ⟨w.heap.size, 5, none⟩ (.slice A3 n3 c3)) = W3 at *; clear hW3 X_0 X_1 X_2 X_3 X_4 X_5 X_6 X_7 X_l X_f Z_0 Z_1 Z_2 Z_3 Z_4 Z_5 Z_6 Z_7 Z_l Z_f X Z o0; have hal := ((Below.refl W3.heap.size W3).alloc (Nat.le_refl _) (.cells #[] 120)); refine wpList_push_all _ tskE (by decide) rfl (.tmp 7) (.tmp 9) rfl Tryz.underlying82 hi0 hz0 hz1 hz2 rfl (v := (.slice (some ⟨w0.heap.size, 0, none⟩) 0 0)) (l := []) rfl (Ow.empty tskE 120 W3 HZ3.out.symm) rfl ((h2.below (bnext B1 hal)).more (bnext B1 hal).size) (by simp) (by omega) (by decide) (by have := hal.size; have := HZ3.out; omega) ?_; intro v1 w1 o5 g1 f1; rw [List.nil_append] at o5; have B31 : Below W3.heap.size W3 w1 := hal.grown g1 hal.size (fun g hg => by have := HZ3.out; simp [Value.ownBlock] at hg <;> omega); clear f1 g1; obtain ⟨⟨A5, n5, c5⟩, F5, rfl, o6, n6⟩ := task_ow o5; replace X1 := X1.below B31; replace Z1 := Z1.below B31; have y0 := X1.cell 0 _ rfl; have y1 := X1.cell 1 _ rfl; have y2 := X1.cell 2 _ rfl; have y3 := X1.cell 3 _ rfl; have y4 := X1.cell 4 _ rfl; have y5 := X1.cell 5 _ rfl; have y6 := X1.cell 6 _ rfl; have y7 := X1.cell 7 _ rfl; have yf := X1.free; have yl := X1.lt; have z0 := Z1.cell 0 _ rfl; have z1 := Z1.cell 1 _ rfl; have z2 := Z1.cell 2 _ rfl; have z3 := Z1.cell 3 _ rfl; have z4 := Z1.cell 4 _ rfl; have z5 := Z1.cell 5 _ rfl; have z6 := Z1.cell 6 _ rfl; have z7 := Z1.cell 7 _ rfl; have zf := Z1.free; have zl := Z1.lt)
  have B2 := bnext B1 B31
  have o7 := planD.ow_below o1 B31
  have hz3 := HZ3.out
  have hb0 := b0.size
  have l0 : ∀ b ∈ F0, b < w0.heap.size := fun b hb => by have := planD.ow_lt o1 b hb; omega
  refine bodyPost_ret (v := runW r (⟨A3, n3, c3⟩, ⟨A5, n5, c5⟩)) ?_ rfl ?_
  · simp [runW, results, Tryz.results66, go_sem, z0, z1, z2, z3, z4, z5, z6, z7]
  · refine ⟨(⟨A3, n3, c3⟩, ⟨A5, n5, c5⟩), F0 ++ F5, rfl, ⟨F0, F5, rfl, ?_, ?_, ?_⟩, ?_, ?_⟩
    · rw [List.nodup_append]
      refine ⟨planD.ow_nodup o1, o6.nodup, fun u hu u' hu' e => ?_⟩
      have := l0 u hu
      have := n6 u' hu'
      omega
    · have hn2 : w.heap.size + 1 ∉ F0 := fun hm => by have := n0 _ hm; omega
      repeat (first | (with_reducible exact o7) | refine Dt.ow_set planD ?_ (by first | exact hnX | exact hn2) _)
    · have hn1 : w.heap.size ∉ F5 := fun hm => by have := n6 _ hm; omega
      have hn2 : w.heap.size + 1 ∉ F5 := fun hm => by have := n6 _ hm; omega
      show OwL taskD _ F5 (.slice A5 n5 c5) r.tasks
      repeat (first | (with_reducible exact o6) | refine OwL.set ?_ (by first | exact hn1 | exact hn2) _)
    · intro b hb
      rcases List.mem_append.1 hb with hb | hb
      · have := n0 b hb; omega
      · have := n6 b hb; omega
    · repeat (first | (with_reducible exact B2) | refine Below.setCell ?_ (by first | (simp; done) | (simp; omega)) _)

end Go.Proofs.YtjobmbjadpldfaaGreat
end
